/- Plain laws, one behind the other. -/
import Derived.Test.YtaocljlhapoieaaRkWorks
import Derived.Test.YtaocljlhapoieaaRankListLaw
section
namespace Go.Am

def prB (prizes : List Int) : Bool := decide ((prizes.length : Int) ≤ 4) && prizes.all fun q => decide (0 ≤ q) && decide (q ≤ 2000)
theorem aAy {prizes : List Int} (h : prB prizes = true) : prizes.length ≤ 4 ∧ ∀ q ∈ prizes, 0 ≤ q ∧ q ≤ 2000 := by
  unfold prB at h
  simp only [Bool.and_eq_true, decide_eq_true_eq, List.all_eq_true] at h
  exact ⟨by omega, h.2⟩
theorem aEz (l : List Int) (f : Int → Option Bool) (p : Int → Bool) (h : ∀ x ∈ l, f x = some (p x)) (hb : l.length ≤ 1000000) : gA l f = some (l.any p) := by
  have hi : kL l f = some (oZ p l) := by
    unfold kL
    refine vL (fun k i => gB l f (l.length : Int) k i) l p (fun k i hi => ?_) (fun k => ?_) BIG (cY (by omega))
    · have hlt : decide ((i : Int) < (l.length : Int)) = true := decide_eq_true (by omega)
      simp only [gB, hlt, cond_true, dE hi, Option.bind_some, h _ (List.getElem_mem hi), cI (show i < 9223372036854775807 by omega)]
    · have hlt : decide ((l.length : Int) < (l.length : Int)) = false := decide_eq_false (by omega)
      simp only [gB, hlt, cond_false, nP]
  unfold gA
  rw [hi, Option.bind_some, aCu]
theorem aKc (prizes : List Int) (hb : prizes.length ≤ 1000000) : ((bif decide (4 < (prizes.length : Int)) then (some true) else ((gA prizes (fun y16 => nF y16)).bind fun r17 => some r17)) : Option Bool) = some (!prB prizes) := by
  have hc := aEz prizes (fun y16 => nF y16) (fun q => !(decide (0 ≤ q) && decide (q ≤ 2000))) (fun x _ => by unfold nF; rw [sA, Option.bind_some]) hb
  rw [hc, Option.bind_some, eO]
  unfold prB
  congr 1
  rw [Bool.not_and, List.not_all_eq_any_not]
  congr 1
  rw [Bool.eq_iff_iff]; simp
/-- Who is not away. -/
def qA (l : aL) (w : Int) : List Int := ((List.range l.Players.toNat).map fun n : Nat => (n : Int)).filter fun p => !gR l.Bans p w
theorem aBk (l : aL) (w : Int) : (qA l w).Nodup ∧ ∀ p ∈ qA l w, 0 ≤ p ∧ p < l.Players := by
  refine ⟨(List.Pairwise.map _ (fun a b h => by omega) (List.nodup_range (n := l.Players.toNat)) : ((List.range l.Players.toNat).map fun n : Nat => (n : Int)).Nodup).sublist List.filter_sublist, fun p hp => ?_⟩
  obtain ⟨n, hn, rfl⟩ := List.mem_map.1 (List.mem_filter.1 hp).1
  have := List.mem_range.1 hn
  omega
def aBv (P : Int) (ns : List Int) : Int × Int × Int := bif ns.any fun n => decide (n = 0) then (0, 0, 3) else (ns.foldl min (P + 1), ns.foldl max 0, 0)
theorem aEs : ∀ (ns : List Int) (s : Bool × Int × Int), ns.foldl (fun s n => zA n s) s = (s.1 || ns.any fun n => decide (n = 0), ns.foldl min s.2.1, ns.foldl max s.2.2)
  | [], s => by simp
  | n :: ns, s => by
    rw [List.foldl_cons, aEs ns]
    simp only [zA, List.any_cons, List.foldl_cons, Bool.or_assoc]
/-- The places in all courses. -/
def lE (l : aL) (z : List aD) (pl w : Int) (prizes : List Int) : List Int := (kC prizes (qA l w)).map fun c => qI l (lP w z c) pl w
theorem GL.okR {l : aL} {z : List aD} (h : GL l z) : OkR l.Players z := ⟨h.st, h.reps, fun x hx => by
  have := tT ((kJ h.led).2.2.2.2.2.1 x ((h.mem x).1 hx))
  omega⟩
theorem aGx {l : aL} {z : List aD} (h : GL l z) (hP : l.Players ≤ 12) {pl w : Int} (ha : sD l pl w = true) (prizes : List Int) (hb : prizes.length ≤ 1000000) : mR l pl w prizes = some (bif !prB prizes then (0, 0, 42) else aBv l.Players (lE l z pl w prizes)) := by
  have hw := yB ha
  have hPl := h.players
  have hf := mS h.rest
  unfold mR
  rw [aLj h ha, Option.bind_some]
  simp only [uY, decide_true, Bool.not_true, cond_false]
  rw [aKc prizes hb, Option.bind_some]
  cases hp : prB prizes with
  | false => rfl
  | true =>
    obtain ⟨hp1, hp2⟩ := aAy hp
    rw [Bool.not_true, cond_false, cond_false]
    obtain ⟨X, hX⟩ : ∃ X, X = (List.range l.Players.toNat).map fun n : Nat => (n : Int) := ⟨_, rfl⟩
    have hXl : X.length = l.Players.toNat := by rw [hX]; simp
    have main := tL (fun k i s => kX prizes (dH l z).Ledger.Players pl w 0 0 (dH l z).Ledger.Reports (dH l z).Ledger.Players (dH l z).Ledger.Counts (dH l z).Ledger.Bans (dH l z).Ledger.Frozen k i s) X (fun p => !gR l.Bans p w) (fun s => rQ prizes pl w 0 0 s (dH l z).Ledger.Reports (dH l z).Ledger.Players (dH l z).Ledger.Counts (dH l z).Ledger.Bans (dH l z).Ledger.Frozen) ?_ ?_ BIG (cY (by omega))
    · refine Eq.trans main ?_
      have hfr : X.filter (fun p => !gR l.Bans p w) = qA l w := by rw [hX]; rfl
      obtain ⟨f1, f2⟩ := aBk l w
      rw [hfr]
      unfold rQ rB
      show (eK BIG (dH l z) pl w false (w64 (l.Players + 1)) 0 w prizes (qA l w)).bind _ = _
      have hzl := h.len
      rw [cS (by omega) (by omega), aIn h.rest hP hw.2 prizes BIG (qA l w) z (false, l.Players + 1, 0) (cY (by omega)) h.okR f2 hp2 f1 (by omega) (by omega), Option.bind_some]
      have hsee : (kC prizes (qA l w)).foldl (fun s c => zA (qI l (lP w z c) pl w) s) (false, l.Players + 1, 0) = (((lE l z pl w prizes).any fun n => decide (n = 0)), (lE l z pl w prizes).foldl min (l.Players + 1), (lE l z pl w prizes).foldl max 0) := by
        have := aEs (lE l z pl w prizes) (false, l.Players + 1, 0)
        unfold lE at this ⊢
        rw [xA, Bool.false_or] at this
        exact this
      rw [hsee]
      unfold aBv
      cases (lE l z pl w prizes).any fun n => decide (n = 0) <;> rfl
    · intro k i hi s hs
      have hi' : i < l.Players.toNat := by omega
      have hlt : decide ((i : Int) < (dH l z).Ledger.Players) = true := decide_eq_true (show (i : Int) < l.Players by omega)
      have hXi : X[i] = (i : Int) := by simp [hX]
      have hsl : s.length ≤ i := by rw [hs]; exact Nat.le_trans (List.length_filter_le _ _) (by simp; omega)
      have haw : mU (dH l z).Ledger.Bans (i : Int) w = some (gR l.Bans (i : Int) w) := aGw _ _ _ (show l.Bans.length ≤ 1000000 by omega)
      rw [kX, hlt, cond_true, haw, Option.bind_some, hXi]
      cases gR l.Bans (i : Int) w with
      | true => rw [Bool.not_true, cond_false, cond_false, cI (by omega)]
      | false => rw [Bool.not_false, cond_true, cond_true, gU (by simp; omega), Option.bind_some, cI (by omega)]
    · intro k s
      have hlt : decide ((X.length : Int) < (dH l z).Ledger.Players) = false := decide_eq_false (show ¬ (X.length : Int) < l.Players by omega)
      rw [kX, hlt, cond_false]
theorem aGy {l : aL} (hb : Bd l) {p w : Int} (h : oW l p w ≠ 0) (prizes : List Int) : mR l p w prizes = some (0, 0, oW l p w) := by
  unfold mR
  rw [aLk hb h, Option.bind_some]
  simp only [uY, decide_eq_false h, Bool.not_false, cond_true]
end Go.Am

end
section
namespace Go.Am

/-- The same ledger with other reports. -/
def nM (l : aL) (rs : List aD) : aL := ⟨l.Players, l.Counts, rs, l.Bans, l.Frozen⟩
end Go.Am

end
section
namespace Go.Am

def kE (w : Int) : List aD → List (Int × Int) → List aD
  | rs, [] => rs
  | rs, c :: t => kE w (rs ++ [qZ w (lV rs) c]) t
structure OkD (P : Int) (z : List aD) : Prop where
  st : z.Pairwise fun x y => x.Id < y.Id
  reps : ∀ x ∈ z, rX P x = true
  ids : ∀ x ∈ z, x.Id ≤ 99 + (z.length : Nat)
theorem vO {rs : List aD} {M : Int} (h : ∀ r ∈ rs, r.Id + 1 ≤ M) (h0 : 0 ≤ M) : lV rs ≤ M := (vQ rs 0).2.2 M h0 h
theorem yQ {rs : List aD} : ∀ r ∈ rs, r.Id < lV rs := (vQ rs 0).2.1
theorem vP (rs : List aD) : 0 ≤ lV rs := (vQ rs 0).1
theorem aGt {rs z : List aD} (h : ∀ x, x ∈ rs ↔ x ∈ z) : lV rs = lV z :=
  Int.le_antisymm (vO (fun r hr => yQ r ((h r).1 hr)) (vP z)) (vO (fun r hr => yQ r ((h r).2 hr)) (vP rs))
theorem OkD.add {P w : Int} {z : List aD} (h : OkD P z) {c : Int × Int} (hc : OkC P c) (hw : 0 ≤ w ∧ w ≤ 400) (hl : z.length ≤ 1000) : OkD P (z ++ [qZ w (lV z) c]) := by
  unfold OkC at hc
  have h0 := vP z
  have h1 : lV z ≤ 100 + (z.length : Int) := vO (fun r hr => by have := h.ids r hr; omega) (by omega)
  refine ⟨List.pairwise_append.2 ⟨h.st, List.pairwise_singleton _ _, fun x hx y hy => ?_⟩, fun x hx => ?_, fun x hx => ?_⟩
  · rw [List.mem_singleton] at hy; subst hy; exact yQ x hx
  · rcases List.mem_append.1 hx with hx | hx
    · exact h.reps x hx
    · rw [List.mem_singleton] at hx; subst hx
      unfold rX inB qZ
      simp only [Bool.and_eq_true, decide_eq_true_eq]
      omega
  · rw [List.length_append, List.length_singleton]
    rcases List.mem_append.1 hx with hx | hx
    · have := h.ids x hx; omega
    · rw [List.mem_singleton] at hx; subst hx
      show lV z ≤ _
      omega
theorem zX {P w : Int} (hw : 0 ≤ w ∧ w ≤ 400) : ∀ (c : List (Int × Int)) (z : List aD), OkD P z → (∀ x ∈ c, OkC P x) → z.length + c.length ≤ 1000 → OkD P (kE w z c) ∧ (kE w z c).length = z.length + c.length ∧ (kE w z c).map mT = z.map mT ++ c.map (qZ w 0)
  | [], z, h, _, _ => ⟨h, rfl, by simp [kE]⟩
  | x :: c, z, h, hc, hl => by
    rw [List.length_cons] at hl
    have h1 := h.add (hc x List.mem_cons_self) hw (by omega)
    obtain ⟨a1, a2, a3⟩ := zX hw c _ h1 (fun y hy => hc y (List.mem_cons_of_mem _ hy)) (by rw [List.length_append, List.length_singleton]; omega)
    refine ⟨a1, ?_, ?_⟩
    · rw [kE, a2, List.length_append, List.length_singleton, List.length_cons]; omega
    · rw [kE, a3, List.map_append, List.map_cons, List.append_assoc]; rfl
theorem aCo {w : Int} : ∀ (c : List (Int × Int)) (rs z : List aD), (∀ x, x ∈ rs ↔ x ∈ z) → ∀ x, x ∈ kE w rs c ↔ x ∈ kE w z c
  | [], _, _, h => h
  | a :: c, rs, z, h => aCo c _ _ fun x => by rw [List.mem_append, List.mem_append, h, aGt h]
theorem aCn {w : Int} : ∀ (c : List (Int × Int)) (rs : List aD), (kE w rs c).length = rs.length + c.length
  | [], _ => rfl
  | a :: c, rs => by rw [kE, aCn c, List.length_append, List.length_singleton, List.length_cons]; omega
/-- The paths are of people that are free, and of the prizes. -/
theorem aEl : ∀ (qs free : List Int), ∀ c ∈ kC qs free, (∀ x ∈ c, x.1 ∈ free ∧ x.2 ∈ qs) ∧ c.length ≤ qs.length
  | [], free, c, hc => by
    rw [kC, List.mem_singleton] at hc
    subst hc; exact ⟨by simp, Nat.zero_le _⟩
  | q :: qs, free, c, hc => by
    rw [kC] at hc
    cases he : free.isEmpty with
    | true => rw [he, cond_true, List.mem_singleton] at hc; subst hc; exact ⟨by simp, Nat.zero_le _⟩
    | false =>
      rw [he, cond_false] at hc
      obtain ⟨p, hp, hc⟩ := List.mem_flatMap.1 hc
      obtain ⟨d, hd, rfl⟩ := List.mem_map.1 hc
      obtain ⟨h1, h2⟩ := aEl qs _ d hd
      refine ⟨fun x hx => ?_, by simp; omega⟩
      rcases List.mem_cons.1 hx with rfl | hx
      · exact ⟨hp, List.mem_cons_self⟩
      · exact ⟨(List.mem_filter.1 (h1 x hx).1).1, List.mem_cons_of_mem _ (h1 x hx).2⟩
theorem yL {α β : Type} (g : α → List β) (M : Nat) : ∀ L : List α, (∀ x ∈ L, (g x).length ≤ M) → (L.flatMap g).length ≤ L.length * M
  | [], _ => by simp
  | x :: L, h => by
    rw [List.flatMap_cons, List.length_append, List.length_cons, Nat.succ_mul]
    have := yL g M L fun y hy => h y (List.mem_cons_of_mem _ hy)
    have := h x List.mem_cons_self
    omega
theorem yV : ∀ (qs free : List Int), free.length ≤ 12 → (kC qs free).length ≤ 12 ^ qs.length
  | [], _, _ => by simp [kC]
  | q :: qs, free, hf => by
    rw [kC]
    cases he : free.isEmpty with
    | true => rw [cond_true, List.length_singleton]; exact Nat.pow_pos (by omega)
    | false =>
      rw [cond_false, List.length_cons, Nat.pow_succ]
      refine Nat.le_trans (yL _ (12 ^ qs.length) free fun p _ => ?_) ?_
      · rw [List.length_map]
        exact yV qs _ (Nat.le_trans (List.length_filter_le _ _) hf)
      · rw [Nat.mul_comm]; exact Nat.mul_le_mul_left _ hf
theorem aAw : ∀ (qs free : List Int), kC qs free ≠ []
  | [], _ => by simp [kC]
  | q :: qs, free => by
    rw [kC]
    match free with
    | [] => simp
    | p :: ft =>
      simp only [List.isEmpty_cons, cond_false, List.flatMap_cons]
      intro h
      have := (List.append_eq_nil_iff.1 h).1
      exact aAw qs _ (List.map_eq_nil_iff.1 this)
def rR (used : List Bool) (p : Int) : Bool := used.getD p.toNat false
def oO (l : aL) : List Int := (List.range l.Players.toNat).map fun n : Nat => (n : Int)
def xB (l : aL) (w : Int) (used : List Bool) : List Int := (oO l).filter fun p => !(rR used p || gR l.Bans p w)
theorem aIv {used : List Bool} {p x : Int} (hp : p.toNat < used.length) (h0 : 0 ≤ p) (hx : 0 ≤ x) : rR (used.set p.toNat true) x = (rR used x || decide (x = p)) := by
  unfold rR
  by_cases h : x = p
  · subst h
    simp [List.getD, List.getElem?_set, hp]
  · have : ¬ p.toNat = x.toNat := by omega
    simp [List.getD, List.getElem?_set, this, h]
theorem aIi {l : aL} {w : Int} {used : List Bool} {p : Int} (hp : p.toNat < used.length) (h0 : 0 ≤ p) : xB l w (used.set p.toNat true) = (xB l w used).filter fun x => !decide (x = p) := by
  unfold xB
  rw [List.filter_filter]
  refine List.filter_congr fun x hx => ?_
  obtain ⟨n, _, rfl⟩ := List.mem_map.1 hx
  rw [aIv hp h0 (by omega)]
  cases rR used (n : Int) <;> cases gR l.Bans (n : Int) w <;> cases decide ((n : Int) = p) <;> rfl
theorem vZ {α β : Type} (g : α → List β) (c : α → Bool) : ∀ (L : List α) (s : List β), L.foldl (fun s x => bif c x then s else s ++ g x) s = s ++ (L.filter fun x => !c x).flatMap g
  | [], s => by simp
  | x :: L, s => by
    rw [List.foldl_cons, vZ g c L]
    cases h : c x <;> simp [h]
theorem aIe {l : aL} (hr : sL l = true) (hP : l.Players ≤ 12) {w : Int} (hw : 0 ≤ w ∧ w ≤ 400) : ∀ (qs : List Int) (kr : Nat) (used : List Bool) (rs : List aD), qs.length < kr → (used.length : Int) = l.Players → (∀ r ∈ rs, 0 ≤ r.Id ∧ r.Id ≤ 99 + (rs.length : Nat)) → rs.length + qs.length ≤ 500 → qs.length ≤ 4 →
    eE kr (nM l rs) w qs used = some ((kC qs (xB l w used)).map fun c => nM l (kE w rs c)) := by
  have hf := mS hr
  intro qs
  induction qs with
  | nil =>
    intro kr used rs hk hu hi hl hq
    obtain ⟨kr, rfl⟩ : ∃ q, kr = q + 1 := ⟨kr - 1, by omega⟩
    have c0 : decide ((([] : List Int).length : Int) = 0) = true := rfl
    rw [eE, c0, cond_true]; rfl
  | cons q qs ih =>
    intro kr used rs hk hu hid hl hq
    rw [List.length_cons] at hk hl hq
    obtain ⟨kr, rfl⟩ : ∃ q, kr = q + 1 := ⟨kr - 1, by omega⟩
    have c0 : decide (((q :: qs).length : Int) = 0) = false := decide_eq_false (by simp; omega)
    rw [eE, c0, cond_false]
    have hbd : Bd (nM l rs) := ⟨by show rs.length ≤ _; omega, by show l.Bans.length ≤ _; omega, by show l.Frozen.length ≤ _; omega⟩
    obtain ⟨free, hfree⟩ : ∃ free, free = xB l w used := ⟨_, rfl⟩
    have hpl : (oO l).length = l.Players.toNat := by unfold oO; simp
    have hfl : free.length ≤ 12 := by rw [hfree]; exact Nat.le_trans (List.length_filter_le _ _) (by omega)
    obtain ⟨g, hg⟩ : ∃ g : Int → List aL, g = fun p => (kC qs (free.filter fun x => !decide (x = p))).map fun c => nM l (kE w (rs ++ [qZ w (lV rs) (p, q)]) c) := ⟨_, rfl⟩
    have hgl : ∀ p, (g p).length ≤ 20736 := fun p => by
      rw [hg]
      simp only [List.length_map]
      refine Nat.le_trans (yV qs _ (Nat.le_trans (List.length_filter_le _ _) hfl)) ?_
      exact Nat.le_trans (Nat.pow_le_pow_right (by omega) (show qs.length ≤ 4 by omega)) (by decide)
    have hfree2 : free = (oO l).filter fun p => !(rR used p || gR l.Bans p w) := hfree
    have main := kW (fun k i s => fU (eE kr) w (q :: qs) used (nM l rs) k i s) (oO l) (fun s p => bif rR used p || gR l.Bans p w then s else s ++ g p) (fun s => mB (eE kr) (nM l rs) s) [] ?_ ?_ BIG (cY (by omega))
    · refine Eq.trans main ?_
      rw [vZ, List.nil_append, ← hfree2, ← hfree]
      unfold mB
      match hfc : free with
      | [] =>
        have : decide (((([] : List Int).flatMap g).length : Int) = 0) = true := rfl
        rw [this, cond_true]; rfl
      | p :: ft =>
        have hne : (p :: ft).flatMap g ≠ [] := by
          rw [List.flatMap_cons]
          intro h
          have := (List.append_eq_nil_iff.1 h).1
          rw [hg] at this
          exact aAw _ _ (List.map_eq_nil_iff.1 this)
        have hne' : ¬ (((p :: ft).flatMap g).length : Int) = 0 := by
          intro h
          exact hne (List.length_eq_zero_iff.1 (by omega))
        rw [decide_eq_false hne', cond_false]
        congr 1
        rw [kC]
        simp only [List.isEmpty_cons, cond_false]
        rw [List.map_flatMap]
        congr 1
        funext p'
        rw [hg, List.map_map]; rfl
    · intro k i hi s hs
      have hi' : i < l.Players.toNat := by omega
      have hlt : decide ((i : Int) < (nM l rs).Players) = true := decide_eq_true (show (i : Int) < l.Players by omega)
      have hpi : (oO l)[i] = (i : Int) := by simp [oO]
      have hui : i < used.length := by omega
      have hub : used[i] = rR used (i : Int) := by unfold rR; simp [List.getD, List.getElem?_eq_getElem hui]
      have hsl : s.length ≤ 12 * 20736 := by
        rw [hs, vZ, List.nil_append]
        refine Nat.le_trans (yL g 20736 _ fun x _ => hgl x) (Nat.mul_le_mul_right _ ?_)
        exact Nat.le_trans (List.length_filter_le _ _) (by simp; omega)
      have haw : gZ (nM l rs).Bans (i : Int) w = some (gR l.Bans (i : Int) w) := aDl _ _ _ (show l.Bans.length ≤ 1000000 by omega)
      rw [fU, hlt, cond_true, dE hui, Option.bind_some, haw, Option.bind_some, eO, Option.bind_some, hub, hpi]
      cases hc : (rR used (i : Int) || gR l.Bans (i : Int) w) with
      | true => rw [cond_true, cond_true, cI (by omega)]
      | false =>
        have hsub2 : sub (q :: qs) 1 ((q :: qs).length : Int) = some qs := by
          have := tH (xs := q :: qs) (i := 1) (by simp)
          simpa using this
        have hwith : mC (nM l rs) (i : Int) w q = some (nM l (rs ++ [qZ w (lV rs) ((i : Int), q)])) := aLh hbd (fun r hr => by have := hid r hr; omega) _ _ _
        have h1 : lV rs ≤ 100 + (rs.length : Int) := vO (fun r hr => by have := hid r hr; omega) (by omega)
        have hcall := ih kr (used.set (i : Int).toNat true) (rs ++ [qZ w (lV rs) ((i : Int), q)]) (by omega) (by rw [List.length_set]; exact hu) (fun r hr => by
          rw [List.length_append, List.length_singleton]
          rcases List.mem_append.1 hr with hr | hr
          · have := hid r hr; omega
          · rw [List.mem_singleton] at hr; subst hr
            have := vP rs
            show 0 ≤ lV rs ∧ lV rs ≤ _
            omega) (by rw [List.length_append, List.length_singleton]; omega) (by omega)
        rw [aIi (by show i < _; exact hui) (by omega), ← hfree] at hcall
        have hcall' : eE kr (nM l (rs ++ [qZ w (lV rs) ((i : Int), q)])) w qs (used.set (i : Int).toNat true) = some (g (i : Int)) := by rw [hcall, hg]
        have hgl' := hgl (i : Int)
        rw [cond_false, cond_false, gU (by simp; omega), Option.bind_some, List.nil_append, dE hui, Option.bind_some, aEf, Option.bind_some, hwith, Option.bind_some, hsub2, Option.bind_some, hcall', Option.bind_some, gU (by omega), Option.bind_some, cI (by omega)]
    · intro k s
      have hlt : decide (((oO l).length : Int) < (nM l rs).Players) = false := decide_eq_false (show ¬ ((oO l).length : Int) < l.Players by omega)
      rw [fU, hlt, cond_false]
end Go.Am

end
section
namespace Go.Am

theorem GL.okD {l : aL} {z : List aD} (h : GL l z) : OkD l.Players z := ⟨h.st, h.reps, fun x hx => by
  have := tT ((kJ h.led).2.2.2.2.2.1 x ((h.mem x).1 hx))
  omega⟩
/-- A course's places: the Ids of what comes do not matter. -/
theorem aAa {l : aL} {z : List aD} (h : GL l z) (hP : l.Players ≤ 12) {w : Int} (hw : 0 ≤ w ∧ w ≤ 400) {c : List (Int × Int)} (hc : ∀ x ∈ c, OkC l.Players x) (hcl : c.length ≤ 4) :
    GD (nM l (kE w l.Reports c)) (kE w z c) ∧ nL l (kE w z c) w = nL l (lP w z c) w ∧ IsList l (lP w z c) w (nL l (lP w z c) w) := by
  have hzl := h.len
  have hrl := (kJ h.led).2.2.1
  obtain ⟨a1, a2, a3⟩ := zY hw c z h.okR hc (by omega)
  obtain ⟨b1, b2, b3⟩ := zX hw c z h.okD hc (by omega)
  have hiso : Iso (lP w z c) (kE w z c) := ⟨by rw [a3, b3], a1.st, b1.st⟩
  obtain ⟨_, l1⟩ := zM h.rest a1.reps a1.st (by omega) hw.1 (show w ≤ 1000 by omega) hP
  obtain ⟨_, l2⟩ := zM h.rest b1.reps b1.st (by omega) hw.1 (show w ≤ 1000 by omega) hP
  refine ⟨⟨h.rest, ?_, b1.st, b1.reps, by omega⟩, l2.uniq (hiso.isList l1), l1⟩
  exact aFa (by show (kE w l.Reports c).length ≤ _; rw [aCn]; omega) b1.st fun x => aCo c z l.Reports h.mem x
theorem zZ {l : aL} {z : List aD} (h : GL l z) (hP : l.Players ≤ 12) {pl w : Int} (hw : 0 ≤ w ∧ w ≤ 400) {c : List (Int × Int)} (hc : ∀ x ∈ c, OkC l.Players x) (hcl : c.length ≤ 4) :
    gK (nM l (kE w l.Reports c)) pl w = some (qI l (lP w z c) pl w) := by
  obtain ⟨g1, g2, _⟩ := aAa h hP hw hc hcl
  rw [g1.place hw.1 (by omega) hP]
  show some (pJ (nL l (kE w z c) w) pl) = _
  rw [g2]; rfl
theorem aEn {l : aL} {z : List aD} (h : GL l z) (hP : l.Players ≤ 12) {pl w : Int} (hw : 0 ≤ w ∧ w ≤ 400) {c : List (Int × Int)} (hc : ∀ x ∈ c, OkC l.Players x) (hcl : c.length ≤ 4) : 0 ≤ qI l (lP w z c) pl w ∧ qI l (lP w z c) pl w ≤ l.Players := by
  obtain ⟨_, _, g3⟩ := aAa h hP hw hc hcl
  have := g3.len_le (by have := h.players; omega)
  have hr := aEo (nL l (lP w z c) w) pl
  unfold qI; omega
theorem aAv {l : aL} {w : Int} {prizes : List Int} (hp : prB prizes = true) {c : List (Int × Int)} (hc : c ∈ kC prizes (qA l w)) : (∀ x ∈ c, OkC l.Players x) ∧ c.length ≤ 4 := by
  obtain ⟨p1, p2⟩ := aAy hp
  obtain ⟨h1, h2⟩ := aEl _ _ c hc
  exact ⟨fun x hx => ⟨(aBk l w).2 _ (h1 x hx).1, p2 _ (h1 x hx).2⟩, by omega⟩
theorem aDf {l : aL} {z : List aD} (h : GL l z) (hP : l.Players ≤ 12) {pl w : Int} (hw : 0 ≤ w ∧ w ≤ 400) {prizes : List Int} (hp : prB prizes = true) : (∀ n ∈ lE l z pl w prizes, 0 ≤ n ∧ n ≤ l.Players) ∧ lE l z pl w prizes ≠ [] := by
  refine ⟨fun n hn => ?_, fun hn => ?_⟩
  · obtain ⟨c, hc, rfl⟩ := List.mem_map.1 hn
    obtain ⟨o1, o2⟩ := aAv hp hc
    exact aEn h hP hw o1 o2
  · exact aAw _ _ (List.map_eq_nil_iff.1 hn)
def vK (b n : Int) : Int := bif decide (b = 0) || decide (n < b) then n else b
theorem aDr : ∀ (L : List Int) (b : Int), 1 ≤ b → (∀ n ∈ L, 1 ≤ n) → L.foldl vK b = L.foldl min b
  | [], _, _, _ => rfl
  | n :: L, b, hb, h => by
    have hn := h n List.mem_cons_self
    have e : vK b n = min b n := by
      unfold vK
      rw [decide_eq_false (show ¬ b = 0 by omega), Bool.false_or]
      by_cases hlt : n < b
      · rw [decide_eq_true hlt, cond_true]; omega
      · rw [decide_eq_false hlt, cond_false]; omega
    rw [List.foldl_cons, List.foldl_cons, e]
    exact aDr L _ (by omega) fun m hm => h m (List.mem_cons_of_mem _ hm)
theorem aGk {P : Int} {L : List Int} (hne : L ≠ []) (h : ∀ n ∈ L, 1 ≤ n ∧ n ≤ P) : L.foldl vK 0 = L.foldl min (P + 1) := by
  match L, hne with
  | n :: L, _ =>
    have hn := h n List.mem_cons_self
    have e : vK 0 n = n := rfl
    have e2 : min (P + 1) n = n := by omega
    rw [List.foldl_cons, List.foldl_cons, e, e2]
    exact aDr L n hn.1 fun m hm => (h m (List.mem_cons_of_mem _ hm)).1
theorem aJp {pl w : Int} (all : List aL) (f : aL → Int) (hf : ∀ x ∈ all, gK x pl w = some (f x)) (hl : all.length ≤ 1000000) :
    fQ pl w all BIG 0 0 0 = some (bif (all.map f).any fun n => decide (n = 0) then (0, 0, 3) else ((all.map f).foldl vK 0, (all.map f).foldl max 0, 0)) := by
  have main : ∀ (d i k : Nat) (b m : Int), all.length - i = d → d < k → i ≤ all.length →
      fQ pl w all k b m (i : Nat) = some (bif ((all.drop i).map f).any fun n => decide (n = 0) then (0, 0, 3) else (((all.drop i).map f).foldl vK b, ((all.drop i).map f).foldl max m, 0)) := by
    intro d
    induction d with
    | zero =>
      intro i k b m hd hk hi
      obtain ⟨k, rfl⟩ : ∃ q, k = q + 1 := ⟨k - 1, by omega⟩
      have : i = all.length := by omega
      subst this
      have hlt : decide ((all.length : Int) < (all.length : Int)) = false := decide_eq_false (by omega)
      rw [fQ, hlt, cond_false, List.drop_length]; rfl
    | succ d ih =>
      intro i k b m hd hk hi
      obtain ⟨k, rfl⟩ : ∃ q, k = q + 1 := ⟨k - 1, by omega⟩
      have hil : i < all.length := by omega
      have hlt : decide ((i : Int) < (all.length : Int)) = true := decide_eq_true (by omega)
      rw [fQ, hlt, cond_true, dE hil, Option.bind_some, hf _ (List.getElem_mem hil), Option.bind_some, List.drop_eq_getElem_cons hil, List.map_cons, List.any_cons, List.foldl_cons, List.foldl_cons]
      cases h0 : decide (f all[i] = 0) with
      | true => rw [cond_true]; rfl
      | false =>
        rw [cond_false, Bool.false_or, eO, Option.bind_some, cI (by omega)]
        have e : vK b (f all[i]) = bif decide (b = 0) || decide (f all[i] < b) then f all[i] else b := rfl
        rw [e]
        cases (decide (b = 0) || decide (f all[i] < b)) with
        | true => rw [cond_true, cond_true]; exact ih (i + 1) k _ _ (by omega) (by omega) (by omega)
        | false => rw [cond_false, cond_false]; exact ih (i + 1) k _ _ (by omega) (by omega) (by omega)
  exact main _ 0 BIG 0 0 rfl (cY (by omega)) (Nat.zero_le _)
theorem aJm (prizes : List Int) (hb : prizes.length ≤ 1000000) : kF prizes = some (prB prizes) := by
  unfold kF
  have main := mJ (fun k i => fY prizes k i) prizes.length (fun i => (fun q : Int => decide (0 ≤ q) && decide (q ≤ 2000)) (prizes.getD i default)) (some false) (kZ prizes) (fun k i hi => by
    have hlt : decide ((i : Int) < (prizes.length : Int)) = true := decide_eq_true (by omega)
    have ei : prizes.getD i default = prizes[i] := by simp [List.getD, List.getElem?_eq_getElem hi]
    simp only [fY, hlt, cond_true, dE hi, Option.bind_some, sX, ei, cI (show i < 9223372036854775807 by omega)]
    cases (decide (0 ≤ prizes[i]) && decide (prizes[i] ≤ 2000)) <;> rfl) (fun k => by
    have hlt : decide ((prizes.length : Int) < (prizes.length : Int)) = false := decide_eq_false (by omega)
    simp only [fY, hlt, cond_false]) BIG (cY (by omega))
  refine Eq.trans main ?_
  rw [oU prizes (fun q : Int => decide (0 ≤ q) && decide (q ≤ 2000))]
  unfold prB kZ
  cases prizes.all fun q => decide (0 ≤ q) && decide (q ≤ 2000) with
  | true => rw [cond_true, Bool.and_true]
  | false => rw [cond_false, Bool.and_false]
theorem aJn {l : aL} {z : List aD} (h : GL l z) (hP : l.Players ≤ 12) {pl w : Int} (ha : sD l pl w = true) (prizes : List Int) (hb : prizes.length ≤ 1000000) : iW l pl w prizes = some (bif !prB prizes then (0, 0, 42) else aBv l.Players (lE l z pl w prizes)) := by
  have hw := yB ha
  have hPl := h.players
  unfold iW
  rw [aKp h.bd, Option.bind_some, aKm h hw.1 hw.2, decide_eq_true rfl, Bool.not_true, cond_false, aJm prizes hb, Option.bind_some]
  cases hp : prB prizes with
  | false => rfl
  | true =>
    obtain ⟨p1, p2⟩ := aAy hp
    have hf := kJ h.led
    obtain ⟨P, hPe⟩ : ∃ P : Nat, l.Players = P := ⟨l.Players.toNat, by omega⟩
    rw [Bool.not_true, cond_false, cond_false, hPe, aKv (by omega), Option.bind_some]
    have hfd : xB l w (List.replicate P false) = qA l w := by
      unfold xB qA oO
      refine List.filter_congr fun x _ => ?_
      have : rR (List.replicate P false) x = false := by
        unfold rR
        rw [List.getD, List.getElem?_replicate]
        split <;> rfl
      rw [this, Bool.false_or]
    have hall := aIe h.rest hP hw.2 prizes BIG (List.replicate P false) l.Reports (cY (by omega)) (by simp [hPe]) (fun r hr => by have := tT (hf.2.2.2.2.2.1 r hr); omega) (by omega) p1
    rw [hfd] at hall
    show (eE BIG (nM l l.Reports) w prizes (List.replicate P false)).bind _ = _
    rw [hall, Option.bind_some]
    have hpaths := yV prizes (qA l w) (by
      have : (qA l w).length ≤ ((List.range l.Players.toNat).map fun n : Nat => (n : Int)).length := List.length_filter_le _ _
      rw [List.length_map, List.length_range] at this
      omega)
    have hpl4 : (12 : Nat) ^ prizes.length ≤ 20736 := Nat.le_trans (Nat.pow_le_pow_right (by omega) p1) (by decide)
    -- the place behind a course, as a function of the ledger
    have hL := aJp (pl := pl) (w := w) ((kC prizes (qA l w)).map fun c => nM l (kE w l.Reports c)) (fun x => (gK x pl w).getD 0) (fun x hx => by
      obtain ⟨c, hc, rfl⟩ := List.mem_map.1 hx
      obtain ⟨o1, o2⟩ := aAv hp hc
      rw [zZ h hP hw.2 o1 o2]; rfl) (by rw [List.length_map]; omega)
    rw [hL, List.map_map]
    have hmap : (kC prizes (qA l w)).map ((fun x => (gK x pl w).getD 0) ∘ fun c => nM l (kE w l.Reports c)) = lE l z pl w prizes := by
      unfold lE
      refine List.map_congr_left fun c hc => ?_
      obtain ⟨o1, o2⟩ := aAv hp hc
      show (gK (nM l (kE w l.Reports c)) pl w).getD 0 = _
      rw [zZ h hP hw.2 o1 o2]; rfl
    rw [hmap]
    unfold aBv
    obtain ⟨r1, r2⟩ := aDf h hP (pl := pl) hw.2 hp
    cases hz : (lE l z pl w prizes).any fun n => decide (n = 0) with
    | true => rfl
    | false =>
      rw [cond_false, cond_false, aGk (P := (P : Int)) r2 fun n hn => by
        have h1 := List.any_eq_false.1 hz n hn
        have h2 := r1 n hn
        simp only [decide_eq_true_eq] at h1
        omega]
theorem aJo {l : aL} (hb : Bd l) {p w : Int} (h : oW l p w ≠ 0) (prizes : List Int) : iW l p w prizes = some (0, 0, oW l p w) := by
  unfold iW
  rw [aKp hb, Option.bind_some, decide_eq_false h, Bool.not_false, cond_true]
end Go.Am

end
