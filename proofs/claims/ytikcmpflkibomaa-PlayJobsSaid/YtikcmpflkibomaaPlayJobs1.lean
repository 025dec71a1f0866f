/- Layers 7 and 8, plain: Jobs of the program and of the reference. -/
import Derived.Test.YtikcmpflkibomaaBrDet
namespace Go.Am

theorem xB (l : List cZ) (hl : l.length ≤ 9223372036854775807) (f : cZ → Option Bool) (g : cZ → Bool) (hf : ∀ x ∈ l, f x = some (g x)) : gG l f = some (l.any g) := by
  have key : iH l f = some (match l.findIdx? g with | some i => (i : Int) | none => -1) := by
    unfold iH
    rw [hC (S := Unit) (fun k i _ => eU l f l.length k i) l.length (fun i _ => some (match (l.drop i).findIdx? g with | some j => ((i + j : Nat) : Int) | none => -1)) (fun _ _ => True) ?_ ?_ BIG () (eH hl) trivial]
    · simp
    · intro k i _ hi _ ih
      have := ih () trivial
      simp only [eU, dQ hi, Option.bind_some, dN (show i < 9223372036854775807 by omega), Int.ofNat_lt, hi, decide_true, cond_true, this, hf _ (List.getElem_mem hi)]
      rw [List.drop_eq_getElem_cons hi, List.findIdx?_cons]
      cases h : g l[i] with
      | true => simp
      | false =>
        simp only [cond_false, Bool.false_eq_true, if_false]
        cases List.findIdx? g (List.drop (i + 1) l) with
        | none => rfl
        | some j => simp; omega
    · intro k _ _
      simp [eU, kV]
  unfold gG
  rw [key]
  cases h : List.findIdx? g l with
  | none =>
    simp at h
    have : l.any g = false := by simpa using h
    simp [this]
  | some j =>
    have : l.any g = true := by
      obtain ⟨h1, h2, _⟩ := List.findIdx?_eq_some_iff_getElem.1 h
      simp only [List.any_eq_true]
      exact ⟨_, List.getElem_mem h1, h2⟩
    simp [this]

/-- A valid stage. -/
def mX (s : cZ) : Bool := wi s.Length.Low 1 600 && wi s.Length.High 1 600 && decide (s.Length.Low ≤ s.Length.High) && wi s.Due 0 2
theorem aEl (s : cZ) : oJ s.Length s.Due = some (mX s) := by
  have hw : ∀ n lo hi, gE n lo hi = some (wi n lo hi) := fun n lo hi => by simp [gE, iM, wi]
  simp only [oJ, qW, hw, Option.bind_some, iM, Option.some.injEq, mX]
  cases wi s.Length.Low 1 600 <;> cases wi s.Length.High 1 600 <;> cases decide (s.Length.Low ≤ s.Length.High) <;> cases wi s.Due 0 2 <;> rfl
theorem aFj (s : cZ) : ((jQ s.Length).bind fun r4 => (bif !r4 then (some true) else ((kT s.Due 0 2).bind fun r6 => some (!r6)))) = some (!mX s) := by
  have hw : ∀ n lo hi, kT n lo hi = some (wi n lo hi) := fun n lo hi => by simp [kT, iM, wi]
  have hl : jQ s.Length = some (wi s.Length.Low 1 600 && wi s.Length.High 1 600 && decide (s.Length.Low ≤ s.Length.High)) := by
    simp only [jQ, Option.bind_some, iM, Option.some.injEq]
    rw [Bool.eq_iff_iff]
    simp only [Bool.and_eq_true, decide_eq_true_eq, kP]
    omega
  rw [hl, Option.bind_some, hw, mX]
  cases (wi s.Length.Low 1 600 && wi s.Length.High 1 600 && decide (s.Length.Low ≤ s.Length.High)) <;> simp

/-- A match is one of the two before another one. -/
def aCr (x b : bK) : Bool := decide (x.Round = w64 (b.Round - 1)) && decide (w64 (x.Place.tdiv 2) = b.Place)
def kI (o : List bK) (b : bK) (n : Nat) : List Nat := (List.range n).filter fun k => o[k]?.any (aCr · b)
def aFd (stages : List cZ) (o : List bK) (b : bK) (n : Nat) : cI := ⟨(stages.getD b.Round.toNat ⟨⟨0, 0⟩, 0⟩).Length, (kI o b n).map Int.ofNat, [], (stages.getD b.Round.toNat ⟨⟨0, 0⟩, 0⟩).Due, 0⟩
def lU (stages : List cZ) (o : List bK) : List cI := (List.range o.length).map fun i => aFd stages o (o.getD i ⟨0, 0, 0, 0⟩) i
theorem yF (o : List bK) (b : bK) (n : Nat) : (kI o b n).length ≤ n := by
  have := List.length_filter_le (fun k => o[k]?.any (aCr · b)) (List.range n)
  simpa [kI] using this
theorem aCg (o : List bK) (b : bK) {n : Nat} (hn : n < o.length) : kI o b (n + 1) = kI o b n ++ (if aCr o[n] b = true then [n] else []) := by
  unfold kI
  rw [List.range_succ, List.filter_append]
  congr 1
  simp only [List.filter_cons, List.filter_nil, List.getElem?_eq_getElem hn, Option.any_some]
theorem yE (o o' : List bK) (b : bK) {n : Nat} (hn : n ≤ o.length) : kI (o ++ o') b n = kI o b n := by
  unfold kI
  apply List.filter_congr
  intro k hk
  rw [List.mem_range] at hk
  rw [List.getElem?_append_left (by omega)]
theorem aIi (o : List bK) (b : bK) {n : Nat} (hn : n ≤ o.length) : kI (o.take n) b n = kI o b n := by
  have := yE (o.take n) (o.drop n) b (n := n) (by simp; omega)
  rw [List.take_append_drop] at this
  exact this.symm
theorem aFz (stages : List cZ) (o : List bK) (b : bK) : lU stages (o ++ [b]) = lU stages o ++ [aFd stages o b o.length] := by
  unfold lU
  rw [List.length_append, List.length_singleton, List.range_succ, List.map_append]
  congr 1
  · apply List.map_congr_left
    intro i hi
    rw [List.mem_range] at hi
    have e : (o ++ [b]).getD i ⟨0, 0, 0, 0⟩ = o.getD i ⟨0, 0, 0, 0⟩ := by simp [List.getD, List.getElem?_append_left hi]
    rw [e]
    unfold aFd
    rw [yE _ _ _ (by omega)]
  · have e : (o ++ [b]).getD o.length ⟨0, 0, 0, 0⟩ = b := by simp [List.getD]
    simp only [List.map_cons, List.map_nil, e]
    unfold aFd
    rw [yE _ _ _ (Nat.le_refl _)]
theorem wI (stages : List cZ) (o : List bK) : (lU stages o).length = o.length := by simp [lU]

/-- A match whose winner is open. -/
def uO (must : List (List Int)) (b : bK) : Bool := decide (mat must b.Round.toNat b.Place.toNat = -2)
def gU (t : bD) (d : List Int) (must : List (List Int)) : List bK := (dL t d must).filter (uO must)
theorem aEe {t : bD} {d : List Int} {must : List (List Int)} {b : bK} (h : b ∈ dL t d must) : ∃ r p : Nat, r < t.Rounds.toNat ∧ p < dO t r ∧ b = ⟨r, p, oC d must r (2 * p), oC d must r (2 * p + 1)⟩ := by
  simp only [dL, List.mem_flatMap, List.mem_range, oB, List.mem_map] at h
  obtain ⟨r, hr, p, hp, rfl⟩ := h
  exact ⟨r, p, hr, hp, rfl⟩
theorem aLt {t : bD} (ht : TreeOK t) {r p : Nat} (hr : r < t.Rounds.toNat) (hp : p < dO t r) : jB t r p = true := by
  have h1 := ht.r1
  simp only [jB, Bool.and_eq_true, kP]
  omega
theorem aDp {t : bD} (ht : TreeOK t) {d : List Int} {must : List (List Int)} : (dL t d must).length ≤ 80 := by
  have h1 := wC ht (d := d) (must := must) t.Rounds.toNat
  have h5 := ht.r5
  unfold dL
  omega

section
variable {t : bD} {l : List aK} {d : List Int} (hg : Good t l d) {must : List (List Int)} (hd : eI t l = some (⟨d, must⟩, true)) (hM : MustIs t must (mD d (Res l)))
variable {stages : List cZ} (hst : (stages.length : Int) = t.Rounds)
include hg hd hM
theorem aCe {b : bK} (hb : b ∈ dL t d must) : eY t l b.Round b.Place = some (bif uO must b then (0, 3) else (mat must b.Round.toNat b.Place.toNat, 0)) := by
  obtain ⟨r, p, hr, hp, rfl⟩ := aEe hb
  have := aCf hg hd hM (aLt hg.ht hr hp)
  simp only [uO, Int.toNat_natCast]
  rw [this]
  by_cases h : mat must r p = -2
  · simp [h]
  · simp [h]
include hst
omit hg hd hM in
theorem aEv {b : bK} (hb : b ∈ dL t d must) : idx stages b.Round = some (stages.getD b.Round.toNat ⟨⟨0, 0⟩, 0⟩) := by
  obtain ⟨r, p, hr, hp, rfl⟩ := aEe hb
  have hi : r < stages.length := by omega
  simp only [Int.toNat_natCast]
  rw [dQ hi, dJ hi]

theorem aLo : iG l stages (dL t d must) (dL t d must).length t BIG 0 [] [] = qH (lU stages (gU t d must)) (gU t d must) := by
  have hbl := aDp hg.ht (d := d) (must := must)
  have := hC (S := List cI × List bK) (fun k i s => iG l stages (dL t d must) (dL t d must).length t k i s.1 s.2) (dL t d must).length (fun _ _ => qH (lU stages (gU t d must)) (gU t d must))
    (fun i s => s.2 = ((dL t d must).take i).filter (uO must) ∧ s.1 = lU stages s.2) ?_ ?_ BIG ([], []) (eH (by omega)) ⟨by simp, rfl⟩
  · exact this
  · rintro k i ⟨jobs, bouts⟩ hi ⟨h1, h2⟩ ih
    simp only at h1 h2
    subst h2
    have hbm : (dL t d must)[i] ∈ dL t d must := List.getElem_mem hi
    have ht1 : (dL t d must).take (i + 1) = (dL t d must).take i ++ [(dL t d must)[i]] := List.take_succ_eq_append_getElem hi
    have hol : bouts.length ≤ i := by
      rw [h1]; have := List.length_filter_le (uO must) ((dL t d must).take i); simp at this; omega
    have hW := aCe hg hd hM hbm
    have hS := aEv hst hbm
    simp only [iG, Int.ofNat_lt, hi, decide_true, cond_true, dQ hi, Option.bind_some, oW, hW, hS]
    cases ho : uO must (dL t d must)[i] with
    | false =>
      simp only [cond_false, decide_true, cond_true, oI, dN (show i < 9223372036854775807 by omega)]
      refine ih (_, _) ⟨?_, rfl⟩
      rw [ht1, List.filter_append, h1]
      simp [ho]
    | true =>
      simp only [cond_true, show decide ((3 : Int) = 0) = false by decide, cond_false]
      have hin := hC (S := List Int) (fun q j af => lQ (iG l stages (dL t d must) (dL t d must).length t k) l stages (dL t d must) (dL t d must).length i bouts.length t (lU stages bouts) bouts (dL t d must)[i] q j af (stages.getD (dL t d must)[i].Round.toNat ⟨⟨0, 0⟩, 0⟩).Length [] (stages.getD (dL t d must)[i].Round.toNat ⟨⟨0, 0⟩, 0⟩).Due 0) bouts.length
        (fun _ _ => sD (iG l stages (dL t d must) (dL t d must).length t k) l stages (dL t d must) (dL t d must).length i t (lU stages bouts) bouts (dL t d must)[i] ((kI bouts (dL t d must)[i] bouts.length).map Int.ofNat) (stages.getD (dL t d must)[i].Round.toNat ⟨⟨0, 0⟩, 0⟩).Length [] (stages.getD (dL t d must)[i].Round.toNat ⟨⟨0, 0⟩, 0⟩).Due 0)
        (fun j af => af = (kI bouts (dL t d must)[i] j).map Int.ofNat) ?_ ?_ BIG [] (eH (by omega)) (by simp [kI])
      · refine hin.trans ?_
        unfold sD
        rw [iX (by rw [wI]; simp; omega), Option.bind_some, iX (by simp; omega), Option.bind_some]
        unfold oI
        rw [dN (show i < 9223372036854775807 by omega)]
        refine ih (_, _) ⟨?_, (aFz stages bouts _).symm⟩
        rw [ht1, List.filter_append, h1]
        simp [ho]
      · rintro q j af hj rfl ih2
        have hal := yF bouts (dL t d must)[i] j
        simp only [lQ, Int.ofNat_lt, hj, decide_true, cond_true, dQ hj, Option.bind_some, iM, dN (show j < 9223372036854775807 by omega)]
        have hs := aCg bouts (dL t d must)[i] hj
        have e : (decide (bouts[j].Round = w64 ((dL t d must)[i].Round - 1)) && decide (w64 (bouts[j].Place.tdiv 2) = (dL t d must)[i].Place)) = aCr bouts[j] (dL t d must)[i] := rfl
        rw [e]
        cases hb : aCr bouts[j] (dL t d must)[i] with
        | true =>
          rw [hb, if_pos rfl] at hs
          simp only [cond_true]
          rw [iX (by simp; omega), Option.bind_some]
          refine ih2 _ ?_
          rw [hs, List.map_append]; rfl
        | false =>
          rw [hb] at hs
          simp only [cond_false]
          refine ih2 _ ?_
          rw [hs]; simp
      · rintro q af rfl
        have hlt : decide ((bouts.length : Int) < (bouts.length : Int)) = false := decide_eq_false (by omega)
        simp only [lQ, hlt, cond_false]
  · rintro k ⟨jobs, bouts⟩ ⟨h1, h2⟩
    simp only at h1 h2
    subst h2
    rw [List.take_length] at h1
    have hlt : decide (((dL t d must).length : Int) < ((dL t d must).length : Int)) = false := decide_eq_false (by omega)
    simp only [iG, hlt, cond_false, h1]
    rfl

omit hst in
theorem aNi : fY l stages (dL t d must) t BIG 0 [] = kG stages (gU t d must) := by
  have hbl := aDp hg.ht (d := d) (must := must)
  have := hC (S := List bK) (fun k i o => fY l stages (dL t d must) t k i o) (dL t d must).length (fun _ _ => kG stages (gU t d must))
    (fun i o => o = ((dL t d must).take i).filter (uO must)) ?_ ?_ BIG [] (eH (by omega)) (by simp)
  · exact this
  · rintro k i o hi h1 ih
    have hbm : (dL t d must)[i] ∈ dL t d must := List.getElem_mem hi
    have ht1 : (dL t d must).take (i + 1) = (dL t d must).take i ++ [(dL t d must)[i]] := List.take_succ_eq_append_getElem hi
    have hol : o.length ≤ i := by
      rw [h1]; have := List.length_filter_le (uO must) ((dL t d must).take i); simp at this; omega
    have hW := aCe hg hd hM hbm
    simp only [fY, Int.ofNat_lt, hi, decide_true, cond_true, dQ hi, Option.bind_some, hW, dN (show i < 9223372036854775807 by omega)]
    cases ho : uO must (dL t d must)[i] with
    | false =>
      simp only [cond_false, show decide ((0 : Int) = 3) = false by decide]
      refine ih _ ?_
      rw [ht1, List.filter_append, h1]
      simp [ho]
    | true =>
      simp only [cond_true, decide_true]
      rw [iX (by simp; omega), Option.bind_some]
      refine ih _ ?_
      rw [ht1, List.filter_append, h1]
      simp [ho]
  · rintro k o rfl
    have hlt : decide (((dL t d must).length : Int) < ((dL t d must).length : Int)) = false := decide_eq_false (by omega)
    simp only [fY, hlt, cond_false, List.take_length]
    rfl

omit hg hd hM in
theorem aNb (h6 : (gU t d must).length ≤ 6) : eS stages (gU t d must) BIG 0 [] = nI (gU t d must) (lU stages (gU t d must)) := by
  have hsub : ∀ b ∈ gU t d must, b ∈ dL t d must := fun b hb => (List.mem_filter.1 hb).1
  generalize hoe : gU t d must = o at *
  have := hC (S := List cI) (fun k i jobs => eS stages o k i jobs) o.length (fun _ _ => nI o (lU stages o)) (fun i jobs => jobs = lU stages (o.take i)) ?_ ?_ BIG [] (eH (by omega)) (by simp [lU])
  · exact this
  · rintro k i jobs hi rfl ih
    have hS := aEv hst (hsub _ (List.getElem_mem hi))
    have ht1 : o.take (i + 1) = o.take i ++ [o[i]] := List.take_succ_eq_append_getElem hi
    have hti : (o.take i).length = i := by simp; omega
    simp only [eS, Int.ofNat_lt, hi, decide_true, cond_true, dQ hi, Option.bind_some, hS]
    have hin := hC (S := List Int) (fun q j af => hB (eS stages o k) stages i o (lU stages (o.take i)) q j af (stages.getD o[i].Round.toNat ⟨⟨0, 0⟩, 0⟩).Length [] (stages.getD o[i].Round.toNat ⟨⟨0, 0⟩, 0⟩).Due 0) i
      (fun _ _ => nJ (eS stages o k) stages i o (lU stages (o.take i)) ((kI o o[i] i).map Int.ofNat) (stages.getD o[i].Round.toNat ⟨⟨0, 0⟩, 0⟩).Length [] (stages.getD o[i].Round.toNat ⟨⟨0, 0⟩, 0⟩).Due 0)
      (fun j af => af = (kI o o[i] j).map Int.ofNat) ?_ ?_ BIG [] (eH (by omega)) (by simp [kI])
    · refine hin.trans ?_
      unfold nJ
      rw [iX (by rw [wI]; simp; omega), Option.bind_some]
      unfold qB
      rw [dN (show i < 9223372036854775807 by omega)]
      refine ih _ ?_
      rw [ht1, aFz, hti]
      unfold aFd
      have : kI o o[i] i = kI (o.take i) o[i] i := (aIi o o[i] (by omega)).symm
      rw [this]
    · rintro q j af hj rfl ih2
      have hj' : j < o.length := by omega
      have hal := yF o o[i] j
      simp only [hB, Int.ofNat_lt, hj, decide_true, cond_true, dQ hj', dQ hi, Option.bind_some, iM, dN (show j < 9223372036854775807 by omega)]
      have hs := aCg o o[i] hj'
      have e : (decide (o[j].Round = w64 (o[i].Round - 1)) && decide (w64 (o[j].Place.tdiv 2) = o[i].Place)) = aCr o[j] o[i] := rfl
      rw [e]
      cases hb : aCr o[j] o[i] with
      | true =>
        rw [hb, if_pos rfl] at hs
        simp only [cond_true]
        rw [iX (by simp; omega), Option.bind_some]
        refine ih2 _ ?_
        rw [hs, List.map_append]; rfl
      | false =>
        rw [hb] at hs
        simp only [cond_false]
        refine ih2 _ ?_
        rw [hs]; simp
    · rintro q af rfl
      have hlt : decide ((i : Int) < (i : Int)) = false := decide_eq_false (by omega)
      simp only [hB, hlt, cond_false]
  · rintro k jobs rfl
    have hlt : decide ((o.length : Int) < (o.length : Int)) = false := decide_eq_false (by omega)
    simp only [eS, hlt, cond_false, List.take_length]
end

/-- The outcome of Jobs. -/
def wJ (t : bD) (d : List Int) (must : List (List Int)) (stages : List cZ) : List cI × List bK × Int :=
  if (stages.length : Int) = t.Rounds ∧ stages.all mX = true then (if 6 < (gU t d must).length then ([], [], 2) else (lU stages (gU t d must), gU t d must, 0)) else ([], [], 82)
theorem xP {t : bD} {l : List aK} {d : List Int} (hg : Good t l d) {must : List (List Int)} (hd : eI t l = some (⟨d, must⟩, true)) (hM : MustIs t must (mD d (Res l))) (stages : List cZ) (hl : stages.length ≤ 1000) :
    mH t l stages = some (wJ t d must stages) := by
  unfold mH nG
  rw [yA hg hd hM, Option.bind_some]
  simp only [decide_true, Bool.not_true, cond_false, wJ]
  rw [xB stages (by omega) (fun y => qV y) (fun s => !mX s) fun x _ => by simp [qV, aEl]]
  by_cases hst : (stages.length : Int) = t.Rounds
  · simp only [hst, decide_true, Bool.not_true, cond_false, Option.bind_some, true_and]
    cases ha : stages.all mX with
    | false =>
      have : (stages.any fun s => !mX s) = true := by rw [List.any_eq_not_all_not]; simp only [Bool.not_not, ha, Bool.not_false]
      simp only [this, cond_true, Bool.false_eq_true, if_false]
    | true =>
      have : (stages.any fun s => !mX s) = false := by rw [List.any_eq_not_all_not]; simp only [Bool.not_not, ha, Bool.not_true]
      simp only [this, cond_false, if_true, aLo hg hd hM hst, qH, wI]
      by_cases h6 : 6 < (gU t d must).length
      · have h6' : decide ((6 : Int) < ((gU t d must).length : Int)) = true := decide_eq_true (by omega)
        simp only [h6', h6, cond_true, if_true]
      · have h6' : decide ((6 : Int) < ((gU t d must).length : Int)) = false := decide_eq_false (by omega)
        simp only [h6', h6, cond_false, if_false]
  · simp only [hst, decide_false, Bool.not_false, cond_true, Option.bind_some, false_and, if_false]
theorem zK {t : bD} {l : List aK} {e : Int} (h : Stat t l e) (stages : List cZ) : mH t l stages = some ([], [], e) := by
  unfold mH nG
  rw [aFm h, Option.bind_some]
  simp only [h.ne, Bool.not_false, cond_true]
theorem aHu {t : bD} {l : List aK} {e : Int} (h : Stat t l e) (stages : List cZ) : gT t l stages = some ([], [], e) := by
  unfold gT
  rw [zY h, Option.bind_some]
  simp only [h.ne, Bool.not_false, cond_true]
theorem aKv (t : bD) (l : List aK) {stages : List cZ} (hl : stages.length ≤ 1000) : fX l stages t BIG 0 = bif stages.all mX then iY l stages t else some ([], [], 82) := by
  have hall := qD (fun k i => fX l stages t k i) stages.length (fun i => stages[i]?.any mX) (some ([], [], 82)) (iY l stages t) ?_ ?_ BIG (eH (by omega))
  · rw [hall]
    have e : (List.range stages.length).all (fun i => stages[i]?.any mX) = stages.all mX := by
      rw [Bool.eq_iff_iff, qI, List.all_eq_true]
      constructor
      · intro h x hx
        obtain ⟨i, hi, rfl⟩ := List.mem_iff_getElem.1 hx
        have := h i hi
        rwa [List.getElem?_eq_getElem hi] at this
      · intro h i hi
        rw [List.getElem?_eq_getElem hi]
        exact h _ (List.getElem_mem hi)
    rw [e]
  · intro k i hi
    have hs := aFj stages[i]
    simp only [fX, Int.ofNat_lt, hi, decide_true, cond_true, dQ hi, Option.bind_some, dN (show i < 9223372036854775807 by omega), List.getElem?_eq_getElem hi, Option.any_some]
    rw [← Option.bind_assoc, hs, Option.bind_some]
    cases mX stages[i] <;> rfl
  · intro k
    have hlt : decide ((stages.length : Int) < (stages.length : Int)) = false := decide_eq_false (by omega)
    simp only [fX, hlt, cond_false]
theorem aPi {t : bD} {l : List aK} {d : List Int} (hg : Good t l d) {must : List (List Int)} (hd : eI t l = some (⟨d, must⟩, true)) (hM : MustIs t must (mD d (Res l))) {stages : List cZ} (hst : (stages.length : Int) = t.Rounds) :
    kG stages (gU t d must) = some (if 6 < (gU t d must).length then ([], [], 2) else (lU stages (gU t d must), gU t d must, 0)) := by
  have hj := aNb (d := d) (must := must) hst
  unfold kG
  generalize eS stages (gU t d must) BIG 0 [] = X at hj ⊢
  by_cases h6 : 6 < (gU t d must).length
  · have h6' : decide ((6 : Int) < ((gU t d must).length : Int)) = true := decide_eq_true (by omega)
    rw [h6', cond_true, if_pos h6]
  · have h6' : decide ((6 : Int) < ((gU t d must).length : Int)) = false := decide_eq_false (by omega)
    rw [h6', cond_false, if_neg h6, hj (by omega)]
    rfl
theorem aPh {t : bD} {l : List aK} {d : List Int} (hg : Good t l d) {must : List (List Int)} (hd : eI t l = some (⟨d, must⟩, true)) (hM : MustIs t must (mD d (Res l))) {stages : List cZ} (hst : (stages.length : Int) = t.Rounds) :
    iY l stages t = some (if 6 < (gU t d must).length then ([], [], 2) else (lU stages (gU t d must), gU t d must, 0)) := by
  unfold iY
  rw [yA hg hd hM, Option.bind_some, aNi hg hd hM (stages := stages), aPi hg hd hM hst]
theorem aGo {t : bD} {l : List aK} {d : List Int} (hg : Good t l d) {must : List (List Int)} (hd : eI t l = some (⟨d, must⟩, true)) (hM : MustIs t must (mD d (Res l))) (stages : List cZ) (hl : stages.length ≤ 1000) :
    gT t l stages = some (wJ t d must stages) := by
  have hS := aKv t l hl
  have hK := fun h => aPh hg hd hM (stages := stages) h
  unfold gT
  rw [yB hg, Option.bind_some]
  generalize fX l stages t BIG 0 = X at hS ⊢
  generalize iY l stages t = Y at hS hK
  unfold wJ
  by_cases hst : (stages.length : Int) = t.Rounds
  · rw [hS]
    cases ha : stages.all mX with
    | false => simp [hst]
    | true => simp [hst, hK hst]
  · simp [hst]
theorem aKz (t : bD) (l : List aK) (stages : List cZ) (hl : stages.length ≤ 1000) : ∃ r, mH t l stages = some r ∧ gT t l stages = some r ∧ r.1.length ≤ 6 ∧ r.2.1.length ≤ 6 := by
  rcases uR t l with ⟨d, hg⟩ | ⟨e, he⟩
  · obtain ⟨must, hd, hM⟩ := tU hg
    refine ⟨_, xP hg hd hM stages hl, aGo hg hd hM stages hl, ?_, ?_⟩
    · unfold wJ; split
      · split
        · simp
        · rw [wI]; omega
      · simp
    · unfold wJ; split
      · split
        · simp
        · show (gU t d must).length ≤ 6; omega
      · simp
  · exact ⟨_, zK he stages, aHu he stages, by simp, by simp⟩
end Go.Am
