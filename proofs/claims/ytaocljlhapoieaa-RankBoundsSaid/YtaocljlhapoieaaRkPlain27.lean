/- Plain laws, one behind the other. -/
import Derived.Test.YtaocljlhapoieaaRkWorks
import Derived.Test.YtaocljlhapoieaaRankListLaw
section
namespace Go.Am

def prB (prizes : List Int) : Bool := decide ((prizes.length : Int) ≤ 4) && prizes.all fun q => decide (0 ≤ q) && decide (q ≤ 2000)
theorem wV {prizes : List Int} (h : prB prizes = true) : prizes.length ≤ 4 ∧ ∀ q ∈ prizes, 0 ≤ q ∧ q ≤ 2000 := by
  unfold prB at h
  simp only [Bool.and_eq_true, decide_eq_true_eq, List.all_eq_true] at h
  exact ⟨by omega, h.2⟩
theorem aEh (l : List Int) (f : Int → Option Bool) (p : Int → Bool) (h : ∀ x ∈ l, f x = some (p x)) (hb : l.length ≤ 1000000) : fR l f = some (l.any p) := by
  have hi : jV l f = some (oA p l) := by
    unfold jV
    refine vF (fun k i => fS l f (l.length : Int) k i) l p (fun k i hi => ?_) (fun k => ?_) BIG (cY (by omega))
    · have hlt : decide ((i : Int) < (l.length : Int)) = true := decide_eq_true (by omega)
      simp only [fS, hlt, cond_true, dD hi, Option.bind_some, h _ (List.getElem_mem hi), cF (show i < 9223372036854775807 by omega)]
    · have hlt : decide ((l.length : Int) < (l.length : Int)) = false := decide_eq_false (by omega)
      simp only [fS, hlt, cond_false, mU]
  unfold fR
  rw [hi, Option.bind_some, aCa]
theorem aJe (prizes : List Int) (hb : prizes.length ≤ 1000000) : ((bif decide (4 < (prizes.length : Int)) then (some true) else ((fR prizes (fun y16 => mN y16)).bind fun r17 => some r17)) : Option Bool) = some (!prB prizes) := by
  have hc := aEh prizes (fun y16 => mN y16) (fun q => !(decide (0 ≤ q) && decide (q ≤ 2000))) (fun x _ => by unfold mN; rw [sM, Option.bind_some]) hb
  rw [hc, Option.bind_some, eO]
  unfold prB
  congr 1
  rw [Bool.not_and, List.not_all_eq_any_not]
  congr 1
  rw [Bool.eq_iff_iff]; simp
/-- Who is not away. -/
def qQ (l : aM) (w : Int) : List Int := ((List.range l.Players.toNat).map fun n : Nat => (n : Int)).filter fun p => !hO l.Bans p w
theorem wT (l : aM) (w : Int) : (qQ l w).Nodup ∧ ∀ p ∈ qQ l w, 0 ≤ p ∧ p < l.Players := by
  refine ⟨(List.Pairwise.map _ (fun a b h => by omega) (List.nodup_range (n := l.Players.toNat)) : ((List.range l.Players.toNat).map fun n : Nat => (n : Int)).Nodup).sublist List.filter_sublist, fun p hp => ?_⟩
  obtain ⟨n, hn, rfl⟩ := List.mem_map.1 (List.mem_filter.1 hp).1
  have := List.mem_range.1 hn
  omega
def pI (P : Int) (ns : List Int) : Int × Int × Int := bif ns.any fun n => decide (n = 0) then (0, 0, 3) else (ns.foldl min (P + 1), ns.foldl max 0, 0)
theorem aEa : ∀ (ns : List Int) (s : Bool × Int × Int), ns.foldl (fun s n => yS n s) s = (s.1 || ns.any fun n => decide (n = 0), ns.foldl min s.2.1, ns.foldl max s.2.2)
  | [], s => by simp
  | n :: ns, s => by
    rw [List.foldl_cons, aEa ns]
    simp only [yS, List.any_cons, List.foldl_cons, Bool.or_assoc]
/-- The places in all courses. -/
def kP (l : aM) (z : List aB) (pl w : Int) (prizes : List Int) : List Int := (lP prizes (qQ l w)).map fun c => nV l (jN w z c) pl w
theorem GL.okR {l : aM} {z : List aB} (h : GL l z) : OkR l.Players z := ⟨h.st, h.reps, fun x hx => by
  have := vM ((jG h.led).2.2.2.2.2.1 x ((h.mem x).1 hx))
  omega⟩
theorem aAz {l : aM} {z : List aB} (h : GL l z) (hP : l.Players ≤ 12) {pl w : Int} (ha : tK l pl w = true) (prizes : List Int) (hb : prizes.length ≤ 1000000) : oE l pl w prizes = some (bif !prB prizes then (0, 0, 42) else pI l.Players (kP l z pl w prizes)) := by
  have hw := xQ ha
  have hPl := h.players
  have hf := nB h.rest
  unfold oE
  rw [aIg h ha, Option.bind_some]
  simp only [vW, decide_true, Bool.not_true, cond_false]
  rw [aJe prizes hb, Option.bind_some]
  cases hp : prB prizes with
  | false => rfl
  | true =>
    obtain ⟨hp1, hp2⟩ := wV hp
    rw [Bool.not_true, cond_false, cond_false]
    obtain ⟨X, hX⟩ : ∃ X, X = (List.range l.Players.toNat).map fun n : Nat => (n : Int) := ⟨_, rfl⟩
    have hXl : X.length = l.Players.toNat := by rw [hX]; simp
    have main := sR (fun k i s => kI prizes (dF l z).Ledger.Players pl w 0 0 (dF l z).Ledger.Reports (dF l z).Ledger.Players (dF l z).Ledger.Counts (dF l z).Ledger.Bans (dF l z).Ledger.Frozen k i s) X (fun p => !hO l.Bans p w) (fun s => qU prizes pl w 0 0 s (dF l z).Ledger.Reports (dF l z).Ledger.Players (dF l z).Ledger.Counts (dF l z).Ledger.Bans (dF l z).Ledger.Frozen) ?_ ?_ BIG (cY (by omega))
    · refine Eq.trans main ?_
      have hfr : X.filter (fun p => !hO l.Bans p w) = qQ l w := by rw [hX]; rfl
      obtain ⟨f1, f2⟩ := wT l w
      rw [hfr]
      unfold qU qC
      show (eD BIG (dF l z) pl w false (w64 (l.Players + 1)) 0 w prizes (qQ l w)).bind _ = _
      have hzl := h.len
      rw [cS (by omega) (by omega), aHu h.rest hP hw.2 prizes BIG (qQ l w) z (false, l.Players + 1, 0) (cY (by omega)) h.okR f2 hp2 f1 (by omega) (by omega), Option.bind_some]
      have hsee : (lP prizes (qQ l w)).foldl (fun s c => yS (nV l (jN w z c) pl w) s) (false, l.Players + 1, 0) = (((kP l z pl w prizes).any fun n => decide (n = 0)), (kP l z pl w prizes).foldl min (l.Players + 1), (kP l z pl w prizes).foldl max 0) := by
        have := aEa (kP l z pl w prizes) (false, l.Players + 1, 0)
        unfold kP at this ⊢
        rw [wS, Bool.false_or] at this
        exact this
      rw [hsee]
      unfold pI
      cases (kP l z pl w prizes).any fun n => decide (n = 0) <;> rfl
    · intro k i hi s hs
      have hi' : i < l.Players.toNat := by omega
      have hlt : decide ((i : Int) < (dF l z).Ledger.Players) = true := decide_eq_true (show (i : Int) < l.Players by omega)
      have hXi : X[i] = (i : Int) := by simp [hX]
      have hsl : s.length ≤ i := by rw [hs]; exact Nat.le_trans (List.length_filter_le _ _) (by simp; omega)
      have haw : mC (dF l z).Ledger.Bans (i : Int) w = some (hO l.Bans (i : Int) w) := aGd _ _ _ (show l.Bans.length ≤ 1000000 by omega)
      rw [kI, hlt, cond_true, haw, Option.bind_some, hXi]
      cases hO l.Bans (i : Int) w with
      | true => rw [Bool.not_true, cond_false, cond_false, cF (by omega)]
      | false => rw [Bool.not_false, cond_true, cond_true, hJ (by simp; omega), Option.bind_some, cF (by omega)]
    · intro k s
      have hlt : decide ((X.length : Int) < (dF l z).Ledger.Players) = false := decide_eq_false (show ¬ (X.length : Int) < l.Players by omega)
      rw [kI, hlt, cond_false]
end Go.Am

end
section
namespace Go.Am

/-- The same ledger with other reports. -/
def sW (l : aM) (rs : List aB) : aM := ⟨l.Players, l.Counts, rs, l.Bans, l.Frozen⟩
end Go.Am

end
section
namespace Go.Am

def gC (w : Int) : List aB → List (Int × Int) → List aB
  | rs, [] => rs
  | rs, c :: t => gC w (rs ++ [sI w (pE rs) c]) t
structure OkD (P : Int) (z : List aB) : Prop where
  st : z.Pairwise fun x y => x.Id < y.Id
  reps : ∀ x ∈ z, rF P x = true
  ids : ∀ x ∈ z, x.Id ≤ 99 + (z.length : Nat)
theorem yD {rs : List aB} {M : Int} (h : ∀ r ∈ rs, r.Id + 1 ≤ M) (h0 : 0 ≤ M) : pE rs ≤ M := (vI rs 0).2.2 M h0 h
theorem yE {rs : List aB} : ∀ r ∈ rs, r.Id < pE rs := (vI rs 0).2.1
theorem yF (rs : List aB) : 0 ≤ pE rs := (vI rs 0).1
theorem aGa {rs z : List aB} (h : ∀ x, x ∈ rs ↔ x ∈ z) : pE rs = pE z :=
  Int.le_antisymm (yD (fun r hr => yE r ((h r).1 hr)) (yF z)) (yD (fun r hr => yE r ((h r).2 hr)) (yF rs))
theorem OkD.add {P w : Int} {z : List aB} (h : OkD P z) {c : Int × Int} (hc : OkC P c) (hw : 0 ≤ w ∧ w ≤ 400) (hl : z.length ≤ 1000) : OkD P (z ++ [sI w (pE z) c]) := by
  unfold OkC at hc
  have h0 := yF z
  have h1 : pE z ≤ 100 + (z.length : Int) := yD (fun r hr => by have := h.ids r hr; omega) (by omega)
  refine ⟨List.pairwise_append.2 ⟨h.st, List.pairwise_singleton _ _, fun x hx y hy => ?_⟩, fun x hx => ?_, fun x hx => ?_⟩
  · rw [List.mem_singleton] at hy; subst hy; exact yE x hx
  · rcases List.mem_append.1 hx with hx | hx
    · exact h.reps x hx
    · rw [List.mem_singleton] at hx; subst hx
      unfold rF inB sI
      simp only [Bool.and_eq_true, decide_eq_true_eq]
      omega
  · rw [List.length_append, List.length_singleton]
    rcases List.mem_append.1 hx with hx | hx
    · have := h.ids x hx; omega
    · rw [List.mem_singleton] at hx; subst hx
      show pE z ≤ _
      omega
theorem vR {P w : Int} (hw : 0 ≤ w ∧ w ≤ 400) : ∀ (c : List (Int × Int)) (z : List aB), OkD P z → (∀ x ∈ c, OkC P x) → z.length + c.length ≤ 1000 → OkD P (gC w z c) ∧ (gC w z c).length = z.length + c.length ∧ (gC w z c).map mB = z.map mB ++ c.map (sI w 0)
  | [], z, h, _, _ => ⟨h, rfl, by simp [gC]⟩
  | x :: c, z, h, hc, hl => by
    rw [List.length_cons] at hl
    have h1 := h.add (hc x List.mem_cons_self) hw (by omega)
    obtain ⟨a1, a2, a3⟩ := vR hw c _ h1 (fun y hy => hc y (List.mem_cons_of_mem _ hy)) (by rw [List.length_append, List.length_singleton]; omega)
    refine ⟨a1, ?_, ?_⟩
    · rw [gC, a2, List.length_append, List.length_singleton, List.length_cons]; omega
    · rw [gC, a3, List.map_append, List.map_cons, List.append_assoc]; rfl
theorem vE {w : Int} : ∀ (c : List (Int × Int)) (rs z : List aB), (∀ x, x ∈ rs ↔ x ∈ z) → ∀ x, x ∈ gC w rs c ↔ x ∈ gC w z c
  | [], _, _, h => h
  | a :: c, rs, z, h => vE c _ _ fun x => by rw [List.mem_append, List.mem_append, h, aGa h]
theorem vD {w : Int} : ∀ (c : List (Int × Int)) (rs : List aB), (gC w rs c).length = rs.length + c.length
  | [], _ => rfl
  | a :: c, rs => by rw [gC, vD c, List.length_append, List.length_singleton, List.length_cons]; omega
/-- The paths are of people that are free, and of the prizes. -/
theorem aDt : ∀ (qs free : List Int), ∀ c ∈ lP qs free, (∀ x ∈ c, x.1 ∈ free ∧ x.2 ∈ qs) ∧ c.length ≤ qs.length
  | [], free, c, hc => by
    rw [lP, List.mem_singleton] at hc
    subst hc; exact ⟨by simp, Nat.zero_le _⟩
  | q :: qs, free, c, hc => by
    rw [lP] at hc
    cases he : free.isEmpty with
    | true => rw [he, cond_true, List.mem_singleton] at hc; subst hc; exact ⟨by simp, Nat.zero_le _⟩
    | false =>
      rw [he, cond_false] at hc
      obtain ⟨p, hp, hc⟩ := List.mem_flatMap.1 hc
      obtain ⟨d, hd, rfl⟩ := List.mem_map.1 hc
      obtain ⟨h1, h2⟩ := aDt qs _ d hd
      refine ⟨fun x hx => ?_, by simp; omega⟩
      rcases List.mem_cons.1 hx with rfl | hx
      · exact ⟨hp, List.mem_cons_self⟩
      · exact ⟨(List.mem_filter.1 (h1 x hx).1).1, List.mem_cons_of_mem _ (h1 x hx).2⟩
theorem aDs : ∀ (qs free : List Int), lP qs free ≠ []
  | [], _ => by simp [lP]
  | q :: qs, free => by
    rw [lP]
    match free with
    | [] => simp
    | p :: ft =>
      simp only [List.isEmpty_cons, cond_false, List.flatMap_cons]
      intro h
      have := (List.append_eq_nil_iff.1 h).1
      exact aDs qs _ (List.map_eq_nil_iff.1 this)
def vQ (used : List Bool) (p : Int) : Bool := used.getD p.toNat false
theorem aIc {used : List Bool} {p x : Int} (hp : p.toNat < used.length) (h0 : 0 ≤ p) (hx : 0 ≤ x) : vQ (used.set p.toNat true) x = (vQ used x || decide (x = p)) := by
  unfold vQ
  by_cases h : x = p
  · subst h
    simp [List.getD, List.getElem?_set, hp]
  · have : ¬ p.toNat = x.toNat := by omega
    simp [List.getD, List.getElem?_set, this, h]
end Go.Am

end
section
namespace Go.Am

theorem GL.okD {l : aM} {z : List aB} (h : GL l z) : OkD l.Players z := ⟨h.st, h.reps, fun x hx => by
  have := vM ((jG h.led).2.2.2.2.2.1 x ((h.mem x).1 hx))
  omega⟩
/-- A course's places: the Ids of what comes do not matter. -/
theorem zL {l : aM} {z : List aB} (h : GL l z) (hP : l.Players ≤ 12) {w : Int} (hw : 0 ≤ w ∧ w ≤ 400) {c : List (Int × Int)} (hc : ∀ x ∈ c, OkC l.Players x) (hcl : c.length ≤ 4) :
    GD (sW l (gC w l.Reports c)) (gC w z c) ∧ jT l (gC w z c) w = jT l (jN w z c) w ∧ IsList l (jN w z c) w (jT l (jN w z c) w) := by
  have hzl := h.len
  have hrl := (jG h.led).2.2.1
  obtain ⟨a1, a2, a3⟩ := zK hw c z h.okR hc (by omega)
  obtain ⟨b1, b2, b3⟩ := vR hw c z h.okD hc (by omega)
  have hiso : Iso (jN w z c) (gC w z c) := ⟨by rw [a3, b3], a1.st, b1.st⟩
  obtain ⟨_, l1⟩ := zC h.rest a1.reps a1.st (by omega) hw.1 (show w ≤ 1000 by omega) hP
  obtain ⟨_, l2⟩ := zC h.rest b1.reps b1.st (by omega) hw.1 (show w ≤ 1000 by omega) hP
  refine ⟨⟨h.rest, ?_, b1.st, b1.reps, by omega⟩, l2.uniq (hiso.isList l1), l1⟩
  exact aEi (by show (gC w l.Reports c).length ≤ _; rw [vD]; omega) b1.st fun x => vE c z l.Reports h.mem x
theorem yM {l : aM} {z : List aB} (h : GL l z) (hP : l.Players ≤ 12) {pl w : Int} (hw : 0 ≤ w ∧ w ≤ 400) {c : List (Int × Int)} (hc : ∀ x ∈ c, OkC l.Players x) (hcl : c.length ≤ 4) : 0 ≤ nV l (jN w z c) pl w ∧ nV l (jN w z c) pl w ≤ l.Players := by
  obtain ⟨_, _, g3⟩ := zL h hP hw hc hcl
  have := g3.len_le (by have := h.players; omega)
  have hr := aDv (jT l (jN w z c) w) pl
  unfold nV; omega
theorem aDr {l : aM} {w : Int} {prizes : List Int} (hp : prB prizes = true) {c : List (Int × Int)} (hc : c ∈ lP prizes (qQ l w)) : (∀ x ∈ c, OkC l.Players x) ∧ c.length ≤ 4 := by
  obtain ⟨p1, p2⟩ := wV hp
  obtain ⟨h1, h2⟩ := aDt _ _ c hc
  exact ⟨fun x hx => ⟨(wT l w).2 _ (h1 x hx).1, p2 _ (h1 x hx).2⟩, by omega⟩
theorem aCm {l : aM} {z : List aB} (h : GL l z) (hP : l.Players ≤ 12) {pl w : Int} (hw : 0 ≤ w ∧ w ≤ 400) {prizes : List Int} (hp : prB prizes = true) : (∀ n ∈ kP l z pl w prizes, 0 ≤ n ∧ n ≤ l.Players) ∧ kP l z pl w prizes ≠ [] := by
  refine ⟨fun n hn => ?_, fun hn => ?_⟩
  · obtain ⟨c, hc, rfl⟩ := List.mem_map.1 hn
    obtain ⟨o1, o2⟩ := aDr hp hc
    exact yM h hP hw o1 o2
  · exact aDs _ _ (List.map_eq_nil_iff.1 hn)
theorem aIt (prizes : List Int) (hb : prizes.length ≤ 1000000) : jR prizes = some (prB prizes) := by
  unfold jR
  have main := lW (fun k i => fP prizes k i) prizes.length (fun i => (fun q : Int => decide (0 ≤ q) && decide (q ≤ 2000)) (prizes.getD i default)) (some false) (kL prizes) (fun k i hi => by
    have hlt : decide ((i : Int) < (prizes.length : Int)) = true := decide_eq_true (by omega)
    have ei : prizes.getD i default = prizes[i] := by simp [List.getD, List.getElem?_eq_getElem hi]
    simp only [fP, hlt, cond_true, dD hi, Option.bind_some, tZ, ei, cF (show i < 9223372036854775807 by omega)]
    cases (decide (0 ≤ prizes[i]) && decide (prizes[i] ≤ 2000)) <;> rfl) (fun k => by
    have hlt : decide ((prizes.length : Int) < (prizes.length : Int)) = false := decide_eq_false (by omega)
    simp only [fP, hlt, cond_false]) BIG (cY (by omega))
  refine Eq.trans main ?_
  rw [nW prizes (fun q : Int => decide (0 ≤ q) && decide (q ≤ 2000))]
  unfold prB kL
  cases prizes.all fun q => decide (0 ≤ q) && decide (q ≤ 2000) with
  | true => rw [cond_true, Bool.and_true]
  | false => rw [cond_false, Bool.and_false]
end Go.Am

end
