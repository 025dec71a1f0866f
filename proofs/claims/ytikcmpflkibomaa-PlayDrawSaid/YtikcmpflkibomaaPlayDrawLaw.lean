/- The plain law PlayDraw. -/
import Derived.Test.YtikcmpflkibomaaPlayJobs1
import Derived.Test.YtikcmpflkibomaaBrPlain12
import Derived.KernelRfl
namespace Go.Am
theorem xT : iP = some true := by kernel_rfl

theorem aEg (stages : List cX) {o : List bN} {i : Nat} (hi : i < o.length) : (fG stages o)[i]'(by rw [kH]; exact hi) = uE stages o o[i] i := by
  have e : (fG stages o)[i]'(by rw [kH]; exact hi) = uE stages o (o.getD i ⟨0, 0, 0, 0⟩) i := by simp [fG]
  rw [e, cV hi]
theorem zN (t : aV) (d : List Int) (must : List (List Int)) : dG t d must = ((aDl t).filter fun x => decide (mat must x.1 x.2 = -2)).map (aIe d must) := by
  unfold dG
  rw [aIg, List.filter_map]
  rfl
theorem aIr {t : aV} {l l' : List aJ} {d d' : List Int} (h : Good t l d) (h' : Good t l' d') (hsub : ∀ s ∈ l', s ∈ l) {must must' : List (List Int)} (hM : MustIs t must (iY d (Res l))) (hM' : MustIs t must' (iY d' (Res l'))) :
    (dG t d must).length ≤ (dG t d' must').length := by
  rw [zN, zN, List.length_map, List.length_map]
  refine lK ((aCj t).filter _) fun x hx => ?_
  simp only [List.mem_filter, decide_eq_true_eq] at hx ⊢
  obtain ⟨h1, h2⟩ := aLc.1 hx.1
  exact ⟨hx.1, aLg h h' hsub hM hM' h1 h2 hx.2⟩
/-- Matches of the draw are told apart by round and place. -/
theorem aLf {t : aV} {d : List Int} {must : List (List Int)} {a b : Nat} (ha : a < (dG t d must).length) (hb : b < (dG t d must).length) (h1 : (dG t d must)[a].Round = (dG t d must)[b].Round) (h2 : (dG t d must)[a].Place = (dG t d must)[b].Place) : a = b := by
  have hnd : ((dG t d must).map fun x => (x.Round, x.Place)).Nodup := by
    rw [zN, List.map_map]
    refine List.Pairwise.map _ (fun x y hxy e => hxy ?_) ((aCj t).filter _)
    simp only [Function.comp, aIe, Prod.mk.injEq] at e
    exact Prod.ext (by omega) (by omega)
  have := (List.getElem_inj hnd (i := a) (j := b) (h₀ := by simpa using ha) (h₁ := by simpa using hb)).1 (by simp [h1, h2])
  exact this
theorem aDv {o : List bN} {b : bN} {n k : Nat} (h : k ∈ eV o b n) : k < n ∧ ∃ hk : k < o.length, yP o[k] b = true := by
  simp only [eV, List.mem_filter, List.mem_range] at h
  obtain ⟨h1, h2⟩ := h
  refine ⟨h1, ?_⟩
  rcases Nat.lt_or_ge k o.length with hk | hk
  · rw [List.getElem?_eq_getElem hk] at h2; exact ⟨hk, h2⟩
  · rw [List.getElem?_eq_none hk] at h2; simp at h2
theorem aJb {t : aV} (ht : TreeOK t) {d : List Int} {must : List (List Int)} {n : Nat} (b : bN) : (eV (dG t d must) b n).length ≤ 2 := by
  have hp : ∀ k, k ∈ eV (dG t d must) b n → ∃ hk : k < (dG t d must).length, (dG t d must)[k].Round = w64 (b.Round - 1) ∧ ((dG t d must)[k].Place = 2 * b.Place ∨ (dG t d must)[k].Place = 2 * b.Place + 1) := by
    intro k hk
    obtain ⟨_, hk', hb⟩ := aDv hk
    simp only [yP, Bool.and_eq_true, decide_eq_true_eq] at hb
    refine ⟨hk', hb.1, ?_⟩
    obtain ⟨r, p, hr, hp, he⟩ := tJ (List.mem_filter.1 (List.getElem_mem hk')).1
    have hpl := kW ht (r := (r : Int))
    have h2 := hb.2
    rw [he] at h2 ⊢
    simp only at h2 ⊢
    have e : ((p : Nat) : Int).tdiv 2 = ((p / 2 : Nat) : Int) := by rw [Int.tdiv_eq_ediv_of_nonneg (by omega)]; omega
    rw [e, gE (by omega) (by omega)] at h2
    omega
  have hnd : ((eV (dG t d must) b n).map fun k => ((dG t d must).getD k ⟨0, 0, 0, 0⟩).Place).Nodup := by
    have h0 : (eV (dG t d must) b n).Nodup := List.nodup_range.filter _
    refine List.Pairwise.map _ ?_ (h0.imp_of_mem (S := fun x y => x ∈ eV (dG t d must) b n ∧ y ∈ eV (dG t d must) b n ∧ x ≠ y) fun hx hy h => ⟨hx, hy, h⟩)
    rintro x y ⟨hx, hy, hne⟩ e
    obtain ⟨x1, x2, _⟩ := hp x hx
    obtain ⟨y1, y2, _⟩ := hp y hy
    rw [cV x1, cV y1] at e
    exact hne (aLf x1 y1 (x2.trans y2.symm) e)
  have := lK (m := [2 * b.Place, 2 * b.Place + 1]) hnd fun x hx => by
    obtain ⟨k, hk, rfl⟩ := List.mem_map.1 hx
    obtain ⟨k1, _, k2⟩ := hp k hk
    rw [cV k1]
    simpa using k2
  simpa using this

section
variable {t : aV} {l : List aJ} {d : List Int} (hg : Good t l d) {must : List (List Int)} (hd : eK t l = some (⟨d, must⟩, true)) (hM : MustIs t must (iY d (Res l)))
variable {stages : List cX} (hst : (stages.length : Int) = t.Rounds)

theorem aIi {a0 : Int → Option Bool} {o : List bN} {i : Nat} (hi : i < o.length) (ho : o.length ≤ 6) : eW a0 l stages (fG stages o) o i t o[i] BIG 0 = iM a0 l stages (fG stages o) o i t := by
  have hij : i < (fG stages o).length := by rw [kH]; exact hi
  have hj : (fG stages o)[i] = uE stages o o[i] i := aEg stages hi
  have hal := aBx o o[i] i
  have main := pP (fun k q => eW a0 l stages (fG stages o) o i t o[i] k q) (eV o o[i] i).length (fun _ => true) (some false) (iM a0 l stages (fG stages o) o i t) ?_ ?_ BIG (eG (by omega))
  · rw [main, show (List.range (eV o o[i] i).length).all (fun _ => true) = true by simp]; rfl
  · intro k q hq
    obtain ⟨a1, a2, a3⟩ := aDv (List.getElem_mem hq)
    simp only [yP, Bool.and_eq_true, decide_eq_true_eq] at a3
    have hq' : q < ((eV o o[i] i).map Int.ofNat).length := by simpa using hq
    have he : ((eV o o[i] i).map Int.ofNat)[q] = (((eV o o[i] i)[q] : Nat) : Int) := by simp
    have n1 : decide ((((eV o o[i] i)[q] : Nat) : Int) < 0) = false := decide_eq_false (by omega)
    have n2 : decide ((i : Int) ≤ (((eV o o[i] i)[q] : Nat) : Int)) = false := decide_eq_false (by omega)
    have hlt : decide ((q : Int) < (((eV o o[i] i).map Int.ofNat).length : Int)) = true := decide_eq_true (by omega)
    simp only [eW, dL hij, hj, uE, Option.bind_some, hlt, cond_true, dL hq', he, n1, n2, cond_false, dL a2, a3.1, a3.2, decide_true, Bool.not_true, dI (show q < 9223372036854775807 by omega)]
  · intro k
    have hlt : decide (((eV o o[i] i).length : Int) < (((eV o o[i] i).map Int.ofNat).length : Int)) = false := decide_eq_false (by simp)
    simp only [eW, dL hij, hj, uE, Option.bind_some, hlt, cond_false]

include hg hd hM hst
theorem aJk (h6 : (dG t d must).length ≤ 6) : dS l stages (fG stages (dG t d must)) (dG t d must) t BIG 0 = gF l stages (fG stages (dG t d must)) t := by
  have hsub : ∀ b ∈ dG t d must, b ∈ dN t d must ∧ xI must b = true := fun b hb => List.mem_filter.1 hb
  have hat : ∀ (b : bN) (n : Nat), (eV (dG t d must) b n).length ≤ 2 := fun b n => aJb hg.ht b
  have main := pP (fun k i => dS l stages (fG stages (dG t d must)) (dG t d must) t k i) (dG t d must).length (fun _ => true) (some false) (gF l stages (fG stages (dG t d must)) t) ?_ ?_ BIG (eG (by omega))
  · rw [main, show (List.range (dG t d must).length).all (fun _ => true) = true by simp]; rfl
  · intro k i hi
    have hij : i < (fG stages (dG t d must)).length := by rw [kH]; exact hi
    have hj : (fG stages (dG t d must))[i] = uE stages (dG t d must) (dG t d must)[i] i := aEg stages hi
    obtain ⟨b1, b2⟩ := hsub _ (List.getElem_mem hi)
    have hW := aAo hg hd hM b1
    have hS := aDe hst b1
    obtain ⟨r, p, hr, hp, he⟩ := tJ b1
    have n1 : decide ((dG t d must)[i].Round < 0) = false := decide_eq_false (by rw [he]; simp only; omega)
    have n2 : decide (t.Rounds ≤ (dG t d must)[i].Round) = false := decide_eq_false (by rw [he]; simp only; omega)
    have n3 : decide ((2 : Int) < (((eV (dG t d must) (dG t d must)[i] i).map Int.ofNat).length : Int)) = false := decide_eq_false (by have := hat (dG t d must)[i] i; simp; omega)
    have hlt : decide ((i : Int) < ((fG stages (dG t d must)).length : Int)) = true := decide_eq_true (by omega)
    have hAf := aIi (t := t) (l := l) (stages := stages) (a0 := dS l stages (fG stages (dG t d must)) (dG t d must) t k) hi h6
    have n4 : decide ((0 : Int) < ((([] : List Int).length : Nat) : Int)) = false := by decide
    simp only [dS, hlt, cond_true, dL hi, dL hij, Option.bind_some, jX, hW, b2, decide_true, Bool.not_true, cond_false, n1, n2, hS, hj, uE, n3, n4]
    rw [hAf]
    simp only [iM, mK, dI (show i < 9223372036854775807 by omega)]
  · intro k
    have hlt : decide (((dG t d must).length : Int) < ((fG stages (dG t d must)).length : Int)) = false := decide_eq_false (by rw [kH]; omega)
    simp only [dS, hlt, cond_false]
omit hd hst in
theorem aIj (hl : l.length ≤ 1000) (hsl : stages.length ≤ 1000) : gF l stages (fG stages (dG t d must)) t = some true := by
  unfold gF
  have main := pP (fun k i => fL l stages (fG stages (dG t d must)) t k i) l.length (fun _ => true) (some false) (some true) ?_ ?_ BIG (eG (by omega))
  · rw [main, show (List.range l.length).all (fun _ => true) = true by simp]; rfl
  · intro k i hi
    have hsubl : ∀ s ∈ l.take i, s ∈ l := fun s hs => List.mem_of_mem_take hs
    have hok : ∃ r, kX t (l.take i) stages = some r ∧ (decide (r.2.2 = 0) && decide ((r.1.length : Int) < ((fG stages (dG t d must)).length : Int))) = false := by
      rcases rA t (l.take i) with ⟨d', hg'⟩ | ⟨e, he⟩
      · obtain ⟨must', hd', hM'⟩ := sJ hg'
        refine ⟨_, wI hg' hd' hM' stages hsl, ?_⟩
        unfold aEv
        split
        · split
          · rfl
          · have := aIr hg hg' hsubl hM hM'
            rw [Bool.and_eq_false_iff]
            exact .inr (decide_eq_false (by rw [kH, kH]; omega))
        · rfl
      · refine ⟨_, xY he stages, ?_⟩
        simp only [he.ne, Bool.false_and]
    obtain ⟨r, r1, r2⟩ := hok
    have hlt : decide ((i : Int) < (l.length : Int)) = true := decide_eq_true (by omega)
    simp only [fL, hlt, cond_true, aNc (show i ≤ l.length by omega), Option.bind_some, r1, iD, r2, cond_false, dI (show i < 9223372036854775807 by omega)]
  · intro k
    have hlt : decide ((l.length : Int) < (l.length : Int)) = false := decide_eq_false (by omega)
    simp only [fL, hlt, cond_false, mL, xT, Option.bind_some]
end

theorem aEr {t : aV} {l : List aJ} {d : List Int} (hg : Good t l d) {must : List (List Int)} (hd : eK t l = some (⟨d, must⟩, true)) (hM : MustIs t must (iY d (Res l))) {stages : List cX} (hl : l.length ≤ 1000) (hsl : stages.length ≤ 1000) (hst : (stages.length : Int) = t.Rounds) (h6 : (dG t d must).length ≤ 6) :
    dS l stages (fG stages (dG t d must)) (dG t d must) t BIG 0 = some true := (aJk hg hd hM hst h6).trans (aIj hg hM hl hsl)
/-- The law behind the call of Jobs. -/
theorem aJl (t : aV) (l : List aJ) (stages : List cX) (W : Option Bool) (C : Option Int) (F : List cS → List bN → Option Bool) (hW : W = some true) (hl : l.length ≤ 1000) (hsl : stages.length ≤ 1000) (hC : C = gA t l)
    (hF : ∀ d must, Good t l d → eK t l = some (⟨d, must⟩, true) → MustIs t must (iY d (Res l)) → (stages.length : Int) = t.Rounds → (dG t d must).length ≤ 6 → F (fG stages (dG t d must)) (dG t d must) = some true) :
    ((kX t l stages).bind fun r5 =>
    bif !decide (r5.2.2 = 0) then ((bif decide ((r5.1.length : Int) = 0) then (some (decide ((r5.2.1.length : Int) = 0))) else (some false)).bind fun b6 =>
    (bif b6 then (W.bind fun r7 => some r7) else (some false)).bind fun b8 =>
    some b8)
    else ((bif !decide ((r5.1.length : Int) = (r5.2.1.length : Int)) then (some true) else (some (decide (6 < (r5.1.length : Int))))).bind fun b9 =>
    (bif b9 then (some true) else (some (!decide ((stages.length : Int) = t.Rounds)))).bind fun b10 =>
    (bif b10 then (some true) else (C.bind fun r11 =>
    some (!decide (r11 = 0)))).bind fun b12 =>
    bif b12 then (some false)
    else (F r5.1 r5.2.1))) = some true := by
  subst hW; subst hC
  rcases rA t l with ⟨d, hg⟩ | ⟨e, he⟩
  · obtain ⟨must, hd, hM⟩ := sJ hg
    rw [wI hg hd hM stages hsl, Option.bind_some]
    unfold aEv
    by_cases h : (stages.length : Int) = t.Rounds ∧ stages.all sW = true
    · rw [if_pos h]
      by_cases h6 : 6 < (dG t d must).length
      · rw [if_pos h6]; rfl
      · rw [if_neg h6]
        have e1 : decide ((6 : Int) < ((fG stages (dG t d must)).length : Int)) = false := decide_eq_false (by rw [kH]; omega)
        have e2 : decide (((fG stages (dG t d must)).length : Int) = ((dG t d must).length : Int)) = true := decide_eq_true (by rw [kH])
        have := hF d must hg hd hM h.1 (by omega)
        simp only [decide_true, Bool.not_true, cond_false, e1, e2, h.1, tD hg, Option.bind_some, this]
    · rw [if_neg h]; rfl
  · rw [xY he stages, Option.bind_some]
    simp only [he.ne, Bool.not_false, cond_true]
    rfl
theorem tX (t : aV) (l : List aJ) (stages : List cX) (ht : aEk t) (hl : okL zL l) (hs : okL xH stages) : lR t l stages = some true := by
  unfold lR
  rw [wG, Option.bind_some, wG, Option.bind_some]
  cases hb : (decide (40 < (t.Slots.length : Int)) || decide (20 < (l.length : Int)) || decide (20 < (stages.length : Int))) with
  | true => simp only [cond_true, xT, Option.bind_some]
  | false =>
    simp only [Bool.or_eq_false_iff, decide_eq_false_iff_not] at hb
    obtain ⟨⟨h1, h2⟩, h3⟩ := hb
    rw [cond_false]
    exact aJl t l stages iP (oC t l) (fun j b => dS l stages j b t BIG 0) xT (by omega) (by omega) rfl fun d must hg hd hM hst h6 => aEr hg hd hM (by omega) (by omega) hst h6
end Go.Am
