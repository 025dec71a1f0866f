/- Layers 7 and 8, plain: Jobs of the program and of the reference. -/
import Derived.Test.YtikcmpflkibomaaBrDet
namespace Go.Am

theorem vX (l : List cX) (hl : l.length ≤ 9223372036854775807) (f : cX → Option Bool) (g : cX → Bool) (hf : ∀ x ∈ l, f x = some (g x)) : fN l f = some (l.any g) := by
  have key : gD l f = some (match l.findIdx? g with | some i => (i : Int) | none => -1) := by
    unfold gD
    rw [hZ (S := Unit) (fun k i _ => eH l f l.length k i) l.length (fun i _ => some (match (l.drop i).findIdx? g with | some j => ((i + j : Nat) : Int) | none => -1)) (fun _ _ => True) ?_ ?_ BIG () (eG hl) trivial]
    · simp
    · intro k i _ hi _ ih
      have := ih () trivial
      simp only [eH, dL hi, Option.bind_some, dI (show i < 9223372036854775807 by omega), Int.ofNat_lt, hi, decide_true, cond_true, this, hf _ (List.getElem_mem hi)]
      rw [List.drop_eq_getElem_cons hi, List.findIdx?_cons]
      cases h : g l[i] with
      | true => simp
      | false =>
        simp only [cond_false, Bool.false_eq_true, if_false]
        cases List.findIdx? g (List.drop (i + 1) l) with
        | none => rfl
        | some j => simp; omega
    · intro k _ _
      simp [eH, jP]
  unfold fN
  rw [key]
  cases h : List.findIdx? g l with
  | none =>
    simp at h
    have : l.any g = false := by simpa using h
    simp [this]
  | some j =>
    have : l.any g = true := by
      obtain ⟨h1, h2, _⟩ := List.findIdx?_eq_some_iff_getElem.1 h
      simp only [List.any_eq_true]
      exact ⟨_, List.getElem_mem h1, h2⟩
    simp [this]

/-- A valid stage. -/
def sW (s : cX) : Bool := wi s.Length.Low 1 600 && wi s.Length.High 1 600 && decide (s.Length.Low ≤ s.Length.High) && wi s.Due 0 2
theorem aCu (s : cX) : nB s.Length s.Due = some (sW s) := by
  have hw : ∀ n lo hi, fM n lo hi = some (wi n lo hi) := fun n lo hi => by simp [fM, iD, wi]
  simp only [nB, pD, hw, Option.bind_some, iD, Option.some.injEq, sW]
  cases wi s.Length.Low 1 600 <;> cases wi s.Length.High 1 600 <;> cases decide (s.Length.Low ≤ s.Length.High) <;> cases wi s.Due 0 2 <;> rfl
/-- A match is one of the two before another one. -/
def yP (x b : bN) : Bool := decide (x.Round = w64 (b.Round - 1)) && decide (w64 (x.Place.tdiv 2) = b.Place)
def eV (o : List bN) (b : bN) (n : Nat) : List Nat := (List.range n).filter fun k => o[k]?.any (yP · b)
def uE (stages : List cX) (o : List bN) (b : bN) (n : Nat) : cS := ⟨(stages.getD b.Round.toNat ⟨⟨0, 0⟩, 0⟩).Length, (eV o b n).map Int.ofNat, [], (stages.getD b.Round.toNat ⟨⟨0, 0⟩, 0⟩).Due, 0⟩
def fG (stages : List cX) (o : List bN) : List cS := (List.range o.length).map fun i => uE stages o (o.getD i ⟨0, 0, 0, 0⟩) i
theorem aBx (o : List bN) (b : bN) (n : Nat) : (eV o b n).length ≤ n := by
  have := List.length_filter_le (fun k => o[k]?.any (yP · b)) (List.range n)
  simpa [eV] using this
theorem aGm (o : List bN) (b : bN) {n : Nat} (hn : n < o.length) : eV o b (n + 1) = eV o b n ++ (if yP o[n] b = true then [n] else []) := by
  unfold eV
  rw [List.range_succ, List.filter_append]
  congr 1
  simp only [List.filter_cons, List.filter_nil, List.getElem?_eq_getElem hn, Option.any_some]
theorem aBw (o o' : List bN) (b : bN) {n : Nat} (hn : n ≤ o.length) : eV (o ++ o') b n = eV o b n := by
  unfold eV
  apply List.filter_congr
  intro k hk
  rw [List.mem_range] at hk
  rw [List.getElem?_append_left (by omega)]
theorem aJn (stages : List cX) (o : List bN) (b : bN) : fG stages (o ++ [b]) = fG stages o ++ [uE stages o b o.length] := by
  unfold fG
  rw [List.length_append, List.length_singleton, List.range_succ, List.map_append]
  congr 1
  · apply List.map_congr_left
    intro i hi
    rw [List.mem_range] at hi
    have e : (o ++ [b]).getD i ⟨0, 0, 0, 0⟩ = o.getD i ⟨0, 0, 0, 0⟩ := by simp [List.getD, List.getElem?_append_left hi]
    rw [e]
    unfold uE
    rw [aBw _ _ _ (by omega)]
  · have e : (o ++ [b]).getD o.length ⟨0, 0, 0, 0⟩ = b := by simp [List.getD]
    simp only [List.map_cons, List.map_nil, e]
    unfold uE
    rw [aBw _ _ _ (Nat.le_refl _)]
theorem kH (stages : List cX) (o : List bN) : (fG stages o).length = o.length := by simp [fG]

/-- A match whose winner is open. -/
def xI (must : List (List Int)) (b : bN) : Bool := decide (mat must b.Round.toNat b.Place.toNat = -2)
def dG (t : aV) (d : List Int) (must : List (List Int)) : List bN := (dN t d must).filter (xI must)
theorem tJ {t : aV} {d : List Int} {must : List (List Int)} {b : bN} (h : b ∈ dN t d must) : ∃ r p : Nat, r < t.Rounds.toNat ∧ p < dA t r ∧ b = ⟨r, p, lU d must r (2 * p), lU d must r (2 * p + 1)⟩ := by
  simp only [dN, List.mem_flatMap, List.mem_range, mU, List.mem_map] at h
  obtain ⟨r, hr, p, hp, rfl⟩ := h
  exact ⟨r, p, hr, hp, rfl⟩
theorem aJt {t : aV} (ht : TreeOK t) {r p : Nat} (hr : r < t.Rounds.toNat) (hp : p < dA t r) : gU t r p = true := by
  have h1 := ht.r1
  simp only [gU, Bool.and_eq_true, jV]
  omega
theorem aIf {t : aV} (ht : TreeOK t) {d : List Int} {must : List (List Int)} : (dN t d must).length ≤ 80 := by
  have h1 := uW ht (d := d) (must := must) t.Rounds.toNat
  have h5 := ht.r5
  unfold dN
  omega

section
variable {t : aV} {l : List aJ} {d : List Int} (hg : Good t l d) {must : List (List Int)} (hd : eK t l = some (⟨d, must⟩, true)) (hM : MustIs t must (iY d (Res l)))
variable {stages : List cX} (hst : (stages.length : Int) = t.Rounds)
include hg hd hM
theorem aAo {b : bN} (hb : b ∈ dN t d must) : fQ t l b.Round b.Place = some (bif xI must b then (0, 3) else (mat must b.Round.toNat b.Place.toNat, 0)) := by
  obtain ⟨r, p, hr, hp, rfl⟩ := tJ hb
  have := aAp hg hd hM (aJt hg.ht hr hp)
  simp only [xI, Int.toNat_natCast]
  rw [this]
  by_cases h : mat must r p = -2
  · simp [h]
  · simp [h]
include hst
omit hg hd hM in
theorem aDe {b : bN} (hb : b ∈ dN t d must) : idx stages b.Round = some (stages.getD b.Round.toNat ⟨⟨0, 0⟩, 0⟩) := by
  obtain ⟨r, p, hr, hp, rfl⟩ := tJ hb
  have hi : r < stages.length := by omega
  simp only [Int.toNat_natCast]
  rw [dL hi, cV hi]

theorem aJo : gC l stages (dN t d must) (dN t d must).length t BIG 0 [] [] = oT (fG stages (dG t d must)) (dG t d must) := by
  have hbl := aIf hg.ht (d := d) (must := must)
  have := hZ (S := List cS × List bN) (fun k i s => gC l stages (dN t d must) (dN t d must).length t k i s.1 s.2) (dN t d must).length (fun _ _ => oT (fG stages (dG t d must)) (dG t d must))
    (fun i s => s.2 = ((dN t d must).take i).filter (xI must) ∧ s.1 = fG stages s.2) ?_ ?_ BIG ([], []) (eG (by omega)) ⟨by simp, rfl⟩
  · exact this
  · rintro k i ⟨jobs, bouts⟩ hi ⟨h1, h2⟩ ih
    simp only at h1 h2
    subst h2
    have hbm : (dN t d must)[i] ∈ dN t d must := List.getElem_mem hi
    have ht1 : (dN t d must).take (i + 1) = (dN t d must).take i ++ [(dN t d must)[i]] := List.take_succ_eq_append_getElem hi
    have hol : bouts.length ≤ i := by
      rw [h1]; have := List.length_filter_le (xI must) ((dN t d must).take i); simp at this; omega
    have hW := aAo hg hd hM hbm
    have hS := aDe hst hbm
    simp only [gC, Int.ofNat_lt, hi, decide_true, cond_true, dL hi, Option.bind_some, jX, hW, hS]
    cases ho : xI must (dN t d must)[i] with
    | false =>
      simp only [cond_false, decide_true, cond_true, nA, dI (show i < 9223372036854775807 by omega)]
      refine ih (_, _) ⟨?_, rfl⟩
      rw [ht1, List.filter_append, h1]
      simp [ho]
    | true =>
      simp only [cond_true, show decide ((3 : Int) = 0) = false by decide, cond_false]
      have hin := hZ (S := List Int) (fun q j af => kJ (gC l stages (dN t d must) (dN t d must).length t k) l stages (dN t d must) (dN t d must).length i bouts.length t (fG stages bouts) bouts (dN t d must)[i] q j af (stages.getD (dN t d must)[i].Round.toNat ⟨⟨0, 0⟩, 0⟩).Length [] (stages.getD (dN t d must)[i].Round.toNat ⟨⟨0, 0⟩, 0⟩).Due 0) bouts.length
        (fun _ _ => qM (gC l stages (dN t d must) (dN t d must).length t k) l stages (dN t d must) (dN t d must).length i t (fG stages bouts) bouts (dN t d must)[i] ((eV bouts (dN t d must)[i] bouts.length).map Int.ofNat) (stages.getD (dN t d must)[i].Round.toNat ⟨⟨0, 0⟩, 0⟩).Length [] (stages.getD (dN t d must)[i].Round.toNat ⟨⟨0, 0⟩, 0⟩).Due 0)
        (fun j af => af = (eV bouts (dN t d must)[i] j).map Int.ofNat) ?_ ?_ BIG [] (eG (by omega)) (by simp [eV])
      · refine hin.trans ?_
        unfold qM
        rw [kD (by rw [kH]; simp; omega), Option.bind_some, kD (by simp; omega), Option.bind_some]
        unfold nA
        rw [dI (show i < 9223372036854775807 by omega)]
        refine ih (_, _) ⟨?_, (aJn stages bouts _).symm⟩
        rw [ht1, List.filter_append, h1]
        simp [ho]
      · rintro q j af hj rfl ih2
        have hal := aBx bouts (dN t d must)[i] j
        simp only [kJ, Int.ofNat_lt, hj, decide_true, cond_true, dL hj, Option.bind_some, iD, dI (show j < 9223372036854775807 by omega)]
        have hs := aGm bouts (dN t d must)[i] hj
        have e : (decide (bouts[j].Round = w64 ((dN t d must)[i].Round - 1)) && decide (w64 (bouts[j].Place.tdiv 2) = (dN t d must)[i].Place)) = yP bouts[j] (dN t d must)[i] := rfl
        rw [e]
        cases hb : yP bouts[j] (dN t d must)[i] with
        | true =>
          rw [hb, if_pos rfl] at hs
          simp only [cond_true]
          rw [kD (by simp; omega), Option.bind_some]
          refine ih2 _ ?_
          rw [hs, List.map_append]; rfl
        | false =>
          rw [hb] at hs
          simp only [cond_false]
          refine ih2 _ ?_
          rw [hs]; simp
      · rintro q af rfl
        have hlt : decide ((bouts.length : Int) < (bouts.length : Int)) = false := decide_eq_false (by omega)
        simp only [kJ, hlt, cond_false]
  · rintro k ⟨jobs, bouts⟩ ⟨h1, h2⟩
    simp only at h1 h2
    subst h2
    rw [List.take_length] at h1
    have hlt : decide (((dN t d must).length : Int) < ((dN t d must).length : Int)) = false := decide_eq_false (by omega)
    simp only [gC, hlt, cond_false, h1]
    rfl

end

/-- The outcome of Jobs. -/
def aEv (t : aV) (d : List Int) (must : List (List Int)) (stages : List cX) : List cS × List bN × Int :=
  if (stages.length : Int) = t.Rounds ∧ stages.all sW = true then (if 6 < (dG t d must).length then ([], [], 2) else (fG stages (dG t d must), dG t d must, 0)) else ([], [], 82)
theorem wI {t : aV} {l : List aJ} {d : List Int} (hg : Good t l d) {must : List (List Int)} (hd : eK t l = some (⟨d, must⟩, true)) (hM : MustIs t must (iY d (Res l))) (stages : List cX) (hl : stages.length ≤ 1000) :
    kX t l stages = some (aEv t d must stages) := by
  unfold kX mB
  rw [aBt hg hd hM, Option.bind_some]
  simp only [decide_true, Bool.not_true, cond_false, aEv]
  rw [vX stages (by omega) (fun y => pC y) (fun s => !sW s) fun x _ => by simp [pC, aCu]]
  by_cases hst : (stages.length : Int) = t.Rounds
  · simp only [hst, decide_true, Bool.not_true, cond_false, Option.bind_some, true_and]
    cases ha : stages.all sW with
    | false =>
      have : (stages.any fun s => !sW s) = true := by rw [List.any_eq_not_all_not]; simp only [Bool.not_not, ha, Bool.not_false]
      simp only [this, cond_true, Bool.false_eq_true, if_false]
    | true =>
      have : (stages.any fun s => !sW s) = false := by rw [List.any_eq_not_all_not]; simp only [Bool.not_not, ha, Bool.not_true]
      simp only [this, cond_false, if_true, aJo hg hd hM hst, oT, kH]
      by_cases h6 : 6 < (dG t d must).length
      · have h6' : decide ((6 : Int) < ((dG t d must).length : Int)) = true := decide_eq_true (by omega)
        simp only [h6', h6, cond_true, if_true]
      · have h6' : decide ((6 : Int) < ((dG t d must).length : Int)) = false := decide_eq_false (by omega)
        simp only [h6', h6, cond_false, if_false]
  · simp only [hst, decide_false, Bool.not_false, cond_true, Option.bind_some, false_and, if_false]
theorem xY {t : aV} {l : List aJ} {e : Int} (h : Stat t l e) (stages : List cX) : kX t l stages = some ([], [], e) := by
  unfold kX mB
  rw [aDt h, Option.bind_some]
  simp only [h.ne, Bool.not_false, cond_true]
end Go.Am
