/- The plain law TopPooled. -/
import Derived.Test.YtiohgpipanopaaaGreatTopDrawnLaw
import Derived.Test.YtiohgpipanopaaaGreatPqPlain
namespace Go.Am
def aCv : bB := (pB).getD ⟨⟨0, []⟩, [], [], 0, [], [], [], []⟩
theorem bEz : pB = some aCv := rfl
theorem bEe {l : List Int} (h : l.Pairwise fun x y => x ≤ y) : eE l = l :=
 List.mergeSort_of_pairwise (h.imp fun h => decide_eq_true h)
theorem aYc {l : List Int} (h : l.Pairwise fun x y => x ≤ y) (hl : l.length < 4611686018427387904) : slices_Sort_int l = some l := by
 unfold slices_Sort_int
 rw [if_pos hl, bEe h]
theorem aKn : nI aCv = some [11, 12, 21, 22, 31, 41] := by
 have h : nI aCv = oN [11, 12, 21, 22, 31, 41] := by kernel_rfl
 rw [h, oN, bW (aYc (l := [11, 12, 21, 22, 31, 41]) (by decide) (by decide))]
theorem bFa : lJ aCv = some 0 := by
 have h1 : sG aCv.Tree aCv.Slips = some 0 := by kernel_rfl
 have h2 : sD aCv = some true := by kernel_rfl
 have h3 : oM aCv = some true := by
  have h : oM aCv = lB aCv [1, 2, 3, 4] := by kernel_rfl
  rw [h, lB, bW (aYc (l := [1, 2, 3, 4]) (by decide) (by decide)), bW aKn]
  show _ = some true
  kernel_rfl
 have h4 : oL aCv = some true := by
  unfold oL
  rw [bW aKn]
  kernel_rfl
 unfold lJ
 rw [bW h1, decide_eq_true rfl, Bool.not_true, cond_false, bW h2, Bool.not_true, cond_false, bW h3, Bool.not_true, cond_false, bW h4]
 rfl
theorem bAu : oX aCv = some (1501, 0) := by
 unfold oX
 rw [bW bFa]
 kernel_rfl
theorem bCr : lL exP 1 = some ([10, -1, 30, 20], 0) := by
 unfold lL
 have hc : tC exP = some 0 := by kernel_rfl
 rw [bW hc]
 show (sO exP 1).bind _ = _
 rw [bDr]
 rfl
theorem aWu : iS = some true := by
 unfold iS sH
 rw [Option.bind_some]
 show (lL exP 1).bind _ = _
 rw [bW bCr, bW bEz, bW bAu]
 kernel_rfl
theorem bHg : (iS.bind fun r => some r) = some true := by rw [aWu]; rfl
def eG (p : bA) (S prizes : List Int) : bB := ⟨⟨if p.Size = 4 then 2 else 3, S⟩, [], prizes, 0, p.Persons.map fun x => ⟨x.Player, x.Player, -1⟩, [], [], []⟩
theorem aUa (p : bA) (hp : p.Persons.length ≤ 100) (S prizes : List Int) : oF p S prizes = some (eG p S prizes) := by
 unfold oF
 have hr : mR p.Size = some (if p.Size = 4 then 2 else 3) := by
  unfold mR
  by_cases h : p.Size = 4
  ·rw [decide_eq_true h, if_pos h]; rfl
  ·rw [decide_eq_false h, if_neg h]; rfl
 rw [bW hr]
 have main := eX (S := List bR) (fun k i o => kY p (bB.mk (aP.mk 0 ([] : List Int)) ([] : List aG) ([] : List Int) 0 ([] : List bR) ([] : List dH) ([] : List cS) ([] : List aN)) k i o (aP.mk (if p.Size = 4 then 2 else 3) S) [] prizes 0 [] [] [])
  p.Persons.length (fun _ _ => some (eG p S prizes)) (fun i o => o = (p.Persons.take i).map fun x => ⟨x.Player, x.Player, -1⟩) ?_ ?_ BIG [] (cG (by omega)) rfl
 ·exact main
 ·intro k i o hi ho ih
  subst ho
  simp only [kY, Int.ofNat_lt, hi, decide_true, cond_true, bU (show i < 9223372036854775807 by omega)]
  rw [bW (bN hi), bW (bN hi), bW (eN (by rw [List.length_map, List.length_take]; simp; omega))]
  refine ih _ ?_
  rw [List.take_succ_eq_append_getElem hi, List.map_append]
  rfl
 ·intro k o ho
  subst ho
  simp only [kY, Int.lt_irrefl, decide_false, cond_false, xV, List.take_length]
  rfl
section
variable {p : bA} (hp : mI p = true) {l : List Int} (hl : aGs p l) (prizes : List Int)
include hp hl
omit hp hl in
theorem aLk (S : List Int) : iO (eG p S prizes) = p.Persons.map fun x => x.Player := by
 unfold iO eG
 simp only
 induction p.Persons with
 | nil => rfl
 | cons x xs ih => rw [List.map_cons, List.flatMap_cons, ih]; rfl
theorem aUb : wI (eG p (l.map (plF p)) prizes) = bif !nD (eG p (l.map (plF p)) prizes) then 100 else 0 := by
 have hsz := fY (shp hp)
 have hnd : (p.Persons.map fun x => x.Player).Nodup := by
  refine List.pairwise_iff_getElem.2 fun i j hi hj hij he => ?_
  rw [List.length_map] at hi hj
  rw [List.getElem_map, List.getElem_map, ← kU hi, ← kU hj] at he
  have := aVe hp hi hj he
  omega
 have hteams : rP (eG p (l.map (plF p)) prizes) = true := by
  have e1 : (eG p (l.map (plF p)) prizes).Teams.length ≤ 64 := by simp [eG]; omega
  have e2 : (eG p (l.map (plF p)) prizes).Teams.all qQ = true := by
   refine List.all_eq_true.2 fun t ht => ?_
   obtain ⟨x, hx, rfl⟩ := List.mem_map.1 ht
   obtain ⟨i, hi, rfl⟩ := List.getElem_of_mem hx
   have := aEt hp hi
   rw [kU hi] at this
   exact xG.2 ⟨this, this, by simp⟩
  have ep : eK (eG p (l.map (plF p)) prizes) = p.Persons.map fun x => x.Player := by simp [eK, eG]
  have e3 : aAp (eG p (l.map (plF p)) prizes) = true := by
   refine List.all_eq_true.2 fun x hx => ?_
   obtain ⟨n, hn, rfl⟩ := List.mem_map.1 hx
   rw [Bool.or_eq_true, decide_eq_true_eq, decide_eq_true_eq, ep]
   by_cases hb : n = -1
   ·exact .inl ((vN hp (hl.num n hn)).2 hb)
   ·obtain ⟨h1, h2⟩ := (hl.num n hn).resolve_left hb
    refine .inr (List.mem_map.2 ⟨p.Persons[n.toNat]'(by omega), List.getElem_mem _, ?_⟩)
    rw [plF, if_neg hb, pn, kU (by omega)]
  unfold rP
  rw [decide_eq_true e1, e2, ep, aLk, decide_eq_true hnd, e3]
  rfl
 unfold wI
 rw [hteams]
 cases nD (eG p (l.map (plF p)) prizes) <;> rfl
theorem aNx (hpl : prizes.length ≤ 1000) : Sz (eG p (l.map (plF p)) prizes) := by
 have h8 := aRh hp hl
 have hsz := fY (shp hp)
 exact ⟨by simp [eG]; omega, rfl, hpl, by simp [eG]; omega, rfl, rfl, rfl, _, aBh (aFe hp hl)⟩
omit hp in
theorem aRu : (l.count (-1) : Int) = p.Size - p.Persons.length ∧ (l.filter fun x => !decide (x = -1)).length = p.Persons.length := by
 have hpw : l.Pairwise fun x y => y ≠ -1 → x ≠ y := List.pairwise_iff_getElem.2 fun i j hi hj hij hy he => by
  have := hl.nd i j hij hj (by rw [bM hi, bM hj]; exact he)
  rw [bM hj] at this
  exact hy this
 have hnd : (l.filter fun x => !decide (x = -1)).Nodup := (hpw.filter _).imp_of_mem fun {x y} _ hy h => h (by simpa using (List.mem_filter.1 hy).2)
 have hsub : ∀ x ∈ l.filter (fun x => !decide (x = -1)), x ∈ (List.range p.Persons.length).map Int.ofNat := by
  intro x hx
  rw [List.mem_filter] at hx
  have hx2 : x ≠ -1 := by simpa using hx.2
  obtain ⟨h1, h2⟩ := (hl.num x hx.1).resolve_left hx2
  exact List.mem_map.2 ⟨x.toNat, by rw [List.mem_range]; omega, by simp; omega⟩
 have h1 := qE hnd hsub
 rw [List.length_map, List.length_range] at h1
 have h2 : (l.filter fun x => !decide (x = -1)).length + l.count (-1) = l.length := by
  have key : ∀ m : List Int, (m.filter fun x => !decide (x = -1)).length + m.count (-1) = m.length := by
   intro m
   induction m with
   | nil => rfl
   | cons y m ih =>
    rw [List.filter_cons, List.count_cons]
    by_cases hy : y = -1
    ·subst hy
     show (m.filter fun x => !decide (x = -1)).length + (m.count (-1) + 1) = m.length + 1
     omega
    ·have e1 : (!decide (y = -1)) = true := by simpa using hy
     have e2 : (y == (-1 : Int)) = false := by simpa using hy
     rw [if_pos e1, e2]
     show (y :: m.filter fun x => !decide (x = -1)).length + (m.count (-1) + 0) = m.length + 1
     rw [List.length_cons]; omega
  exact key l
 have h3 := hl.byes
 have h4 := hl.len
 omega
omit hp hl in
theorem bCv (q : bB) (S : List Int) : (S.map (aEd q)).sum = -(mF q 0 * (S.count (-1) : Nat)) := by
 induction S with
 | nil => simp
 | cons y m ih =>
  rw [List.map_cons, List.sum_cons, List.count_cons, ih]
  unfold aEd
  by_cases hy : y = -1
  ·subst hy
   show (-mF q 0) + -(mF q 0 * (m.count (-1) : Nat)) = -(mF q 0 * ((m.count (-1) + 1 : Nat) : Int))
   rw [Int.natCast_add, Int.mul_add]
   simp
   omega
  ·have e2 : (y == (-1 : Int)) = false := by simpa using hy
   rw [e2, decide_eq_false hy]
   simp
theorem aQj : aZg (eG p (l.map (plF p)) prizes) = mF (eG p [] prizes) (if p.Size = 4 then 2 else 3) + ((List.range (if p.Size = 4 then 2 else 3 : Int).toNat).map (vH (eG p [] prizes))).sum + -(mF (eG p [] prizes) 0 * (p.Size - p.Persons.length)) := by
 have hc : ((l.map (plF p)).count (-1) : Int) = p.Size - p.Persons.length := by
  rw [← (aRu hl).1]
  congr 1
  have key : ∀ m : List Int, (∀ x ∈ m, Num p x) → (m.map (plF p)).count (-1) = m.count (-1) := by
   intro m
   induction m with
   | nil => intro _; rfl
   | cons y m ih =>
    intro h
    rw [List.map_cons, List.count_cons, List.count_cons, ih fun x hx => h x (List.mem_cons_of_mem _ hx)]
    have := vN hp (h y (by simp))
    by_cases hy : y = -1
    ·rw [this.2 hy, hy]
    ·have e1 : (plF p y == (-1 : Int)) = false := by simpa using fun e => hy (this.1 e)
     have e2 : (y == (-1 : Int)) = false := by simpa using hy
     rw [e1, e2]
  exact key l hl.num
 unfold aZg
 have hs := bCv (eG p (l.map (plF p)) prizes) (l.map (plF p))
 have e : (eG p (l.map (plF p)) prizes).Tree.Slots = l.map (plF p) := rfl
 rw [e, hs, hc]
 rfl
theorem bBi : ∃ r, vC (eS p l) [] (w64 ((eS p l).Rounds - 1)) 0 = some (r, 0) ∧ (r.length : Int) = p.Persons.length := by
 have hT := aFe hp hl
 have hr := aMq hp hl
 have h8 := aRh hp hl
 have hg : Good (eS p l) [] (l.map (plF p)) := aBh hT
 obtain ⟨must, hd, hM0⟩ := zJ hg
 have hM : MustIs (eS p l) must (gE (eS p l).Slots (Res [])) := hM0
 have e1 : w64 ((eS p l).Rounds - 1) = (eS p l).Rounds - 1 := dF (by omega) (by omega)
 have hm : kN (eS p l) ((eS p l).Rounds - 1) 0 = true := by
  unfold kN
  rw [Bool.and_eq_true, jB, jB]
  have : dB (eS p l) ((eS p l).Rounds - 1) = 1 := by
   unfold dB
   have : (eS p l).Rounds.toNat - 1 - ((eS p l).Rounds - 1).toNat = 0 := by omega
   rw [this]
  rw [this]
  omega
 obtain ⟨R, hRR⟩ : ∃ R : Nat, (eS p l).Rounds - 1 = (R : Int) := ⟨((eS p l).Rounds - 1).toNat, by omega⟩
 rw [hRR] at hm
 have hMay := aTv (p := 0) hg hd hM0 hm
 refine ⟨_, by rw [e1, hRR]; exact hMay, ?_⟩
 rw [(oZ _).length_eq, ← (aRu hl).2]
 unfold aRi aCx
 rw [List.length_map, List.length_map]
 have hb : ∀ a, a < l.length → aEn (l.map (plF p)) must (eS p l) R 0 a = !decide (l.getD a 0 = -1) := by
  intro a ha
  have hpb := vN hp (aHe hl ha)
  unfold aEn
  rw [aHi ha]
  by_cases hbye : l.getD a 0 = -1
  ·rw [hpb.2 hbye, hbye]; rfl
  ·have h1 : plF p (l.getD a 0) ≠ -1 := fun h => hbye (hpb.1 h)
   have ha' : a < (eS p l).Slots.length := by simpa [eS] using ha
   have hn : (eS p l).Slots.getD a 0 ≠ -1 := by
    have : (eS p l).Slots.getD a 0 = plF p (l.getD a 0) := aHi ha
    rw [this]; exact h1
   have hmost : xO (l.map (plF p)) must a (eS p l) = (eS p l).Rounds.toNat := aUy hT hM ha' hn
   have hdiv : a / 2 ^ (R + 1) = 0 := by
    have : R + 1 = (eS p l).Rounds.toNat := by omega
    rw [this]
    have hlen := (pA hT).len
    refine Nat.div_eq_of_lt ?_
    rw [← hlen]; exact ha'
   rw [hmost, hdiv, decide_eq_false h1, decide_eq_false hbye, decide_eq_true rfl, decide_eq_true (by omega)]
   rfl
 have e2 : ((List.range l.length).filter (aEn (l.map (plF p)) must (eS p l) R 0)).length = (l.filter fun x => !decide (x = -1)).length := by
  rw [List.filter_congr fun a ha => hb a (List.mem_range.1 ha)]
  have key : ∀ m : List Int, ((List.range m.length).filter fun a => !decide (m.getD a 0 = -1)).length = (m.filter fun x => !decide (x = -1)).length := by
   intro m
   have e : m = (List.range m.length).map fun a => m.getD a 0 := by
    refine List.ext_getElem (by simp) fun i h1 h2 => ?_
    rw [List.getElem_map, List.getElem_range, bM h1]
   conv => rhs; rw [e]
   rw [List.filter_map, List.length_map]
   rfl
  exact key l
 rw [e2]
theorem aWm {d : List Int} (h : GP (eG p (l.map (plF p)) prizes) d) (hpl : prizes.length ≤ 1000) {s a : Nat} (hs : s < l.length) (ha : a < p.Persons.length) (ea : l.getD s 0 = (a : Int)) :
  vO (eG p (l.map (plF p)) prizes) (pp p a).Player = some (⟨if (l.map (plF p)).getD (sib s) 0 = -1 then prizes.getD 1 0 else prizes.getD 0 0, prizes.getD (prizes.length - 1) 0⟩, 0) := by
 have hsz := fY (shp hp)
 have hT := aFe hp hl
 have h8 := aRh hp hl
 have hz := aNx hp hl prizes hpl
 have hd : d = l.map (plF p) := h.good.uniq (aBh hT)
 subst hd
 have hin : aIm (eG p (l.map (plF p)) prizes) (pp p a).Player = true := by
  unfold aIm
  rw [aLk]
  refine decide_eq_true (List.mem_map.2 ⟨p.Persons[a], List.getElem_mem _, ?_⟩)
  rw [kU ha]
 have hteam : aFd (eG p (l.map (plF p)) prizes) (pp p a).Player = some ⟨(pp p a).Player, (pp p a).Player, -1⟩ := by
  unfold aFd
  have h0 := aEt hp ha
  have hfind : ∀ t ∈ (eG p (l.map (plF p)) prizes).Teams, (decide (t.One = (pp p a).Player) || (decide (t.Two = (pp p a).Player) && decide (0 ≤ (pp p a).Player))) = true → t = ⟨(pp p a).Player, (pp p a).Player, -1⟩ := by
   intro t ht hq
   obtain ⟨x, hx, rfl⟩ := List.mem_map.1 ht
   simp only [Bool.or_eq_true, decide_eq_true_eq, Bool.and_eq_true] at hq
   rcases hq with hq | hq
   ·rw [hq]
   ·omega
  cases hf : (eG p (l.map (plF p)) prizes).Teams.find? fun t => decide (t.One = (pp p a).Player) || (decide (t.Two = (pp p a).Player) && decide (0 ≤ (pp p a).Player)) with
  | some t =>
   have hq := List.find?_some hf
   rw [hfind t (List.mem_of_find?_eq_some hf) (by simpa using hq)]
  | none =>
   have := List.find?_eq_none.1 hf ⟨(pp p a).Player, (pp p a).Player, -1⟩ (List.mem_map.2 ⟨p.Persons[a], List.getElem_mem _, by rw [kU ha]⟩)
   simp at this
 have hM := (aSm h.good).2
 have hreach : xE (eG p (l.map (plF p)) prizes) (l.map (plF p)) (pp p a).Player = (⟨if (l.map (plF p)).getD (sib s) 0 = -1 then 1 else 0, (eS p l).Rounds⟩, 0) := aZj hp hl hM hs ha ea
 have hlen : (prizes.length : Int) = (eS p l).Rounds + 1 := (aEu h.prizes).2.1
 rw [bFp hz h, hin, cond_true]
 unfold aPo
 rw [hteam]
 simp only [aZw, hreach, if_true, aLs, mF]
 have hR := aMq hp hl
 have e2 : (eS p l).Rounds.toNat = prizes.length - 1 := by omega
 have ep : (eG p (l.map (plF p)) prizes).Prizes = prizes := rfl
 rw [ep, e2]
 by_cases hb : (l.map (plF p)).getD (sib s) 0 = -1
 ·rw [if_pos hb, if_pos hb]; rfl
 ·rw [if_neg hb, if_neg hb]; rfl
theorem aWt {x : nY} (h0 : wI (eG p (l.map (plF p)) x.Prizes) = 0) (hpl : x.Prizes.length ≤ 10) : eC (l.map (plF p)) x (eG p (l.map (plF p)) x.Prizes) BIG 0 = some true := by
 obtain ⟨d, hg⟩ := aYu (aNx hp hl x.Prizes (by omega)) h0
 have h8 := aRh hp hl
 have hR := aMq hp hl
 have hlen : (x.Prizes.length : Int) = (eS p l).Rounds + 1 := (aEu hg.prizes).2.1
 have main := pK (S := Unit) (fun k i _ => eC (l.map (plF p)) x (eG p (l.map (plF p)) x.Prizes) k i) l.length (fun o => o = some true) (fun i _ => i ≤ l.length) (fun k s _ hs _ ih => ?_) (fun k i _ h5 h6 => ?_) BIG 0 () (cG (by omega)) (Nat.zero_le _)
 ·exact main
 ·have hs' : s < (l.map (plF p)).length := by simpa using hs
  have hlt : decide ((s : Int) < ((l.map (plF p)).length : Int)) = true := decide_eq_true (by omega)
  have hsib : sib s < (l.map (plF p)).length := by rw [List.length_map]; unfold sib; split <;> omega
  have hx : aHw (s : Int) 1 = ((sib s : Nat) : Int) := by
   have := bAa ⟨s, by omega⟩
   simpa [sib] using this
  have hget : (l.map (plF p))[s] = plF p (l.getD s 0) := by rw [List.getElem_map, bM hs]
  simp only [eC, hlt, cond_true]
  rw [bW (bN hs'), bU (show s < 9223372036854775807 by omega), hget]
  have hn := aHe hl hs
  by_cases hb : l.getD s 0 = -1
  ·rw [decide_eq_true ((vN hp hn).2 hb), cond_true]
   exact ih () (by omega)
  ·obtain ⟨n1, n2⟩ := hn.resolve_left hb
   obtain ⟨a, ea⟩ : ∃ a : Nat, l.getD s 0 = (a : Int) := ⟨(l.getD s 0).toNat, by omega⟩
   have ha : a < p.Persons.length := by omega
   have hpl2 : plF p (l.getD s 0) = (pp p a).Player := by rw [ea, plF, if_neg (by omega), pn, Int.toNat_natCast]
   have hG := aWm hp hl x.Prizes hg (by omega) hs ha ea
   have hi0 : idx x.Prizes 0 = some (x.Prizes.getD 0 0) := by have := bN (xs := x.Prizes) (i := 0) (by omega); rw [bM (show 0 < x.Prizes.length by omega)]; exact this
   have hi1 : idx x.Prizes 1 = some (x.Prizes.getD 1 0) := by have := bN (xs := x.Prizes) (i := 1) (by omega); rw [bM (show 1 < x.Prizes.length by omega)]; exact this
   have hil : idx x.Prizes (w64 ((x.Prizes.length : Int) - 1)) = some (x.Prizes.getD (x.Prizes.length - 1) 0) := by
    rw [zE (show 0 < x.Prizes.length by omega) (by omega), bM (show x.Prizes.length - 1 < x.Prizes.length by omega)]
    exact bN (by omega)
   have hne : plF p (l.getD s 0) ≠ -1 := fun h => hb ((vN hp hn).1 h)
   have e9 : (l.map (plF p))[sib s] = (l.map (plF p)).getD (sib s) 0 := (bM hsib 0).symm
   rw [decide_eq_false hne, cond_false, bW (bN hs'), hget, hpl2, bW hG, bW hi0, hx, bW (bN hsib), e9]
   by_cases hbs : (l.map (plF p)).getD (sib s) 0 = -1
   ·rw [decide_eq_true hbs, cond_true, bW hi1]
    simp only [if_pos hbs, decide_true, Bool.not_true, cond_false, Option.bind_some, hil]
    exact ih () (by omega)
   ·rw [decide_eq_false hbs, cond_false]
    simp only [if_neg hbs, decide_true, Bool.not_true, cond_false, Option.bind_some, hil]
    exact ih () (by omega)
 ·have : i = l.length := by omega
  subst this
  have hlt : decide ((l.length : Int) < ((l.map (plF p)).length : Int)) = false := decide_eq_false (by simp)
  simp only [eC, hlt, cond_false, tV]
  exact bHg
end
theorem aZh (Fr : Option Bool) (C : Option Int) (ten : Bool) (n np : Int) (W : Option Bool) (hW : (W.bind fun r => some r) = some true) (D1 D2 : Option (List Int × Int)) (Ch : List Int → Option bB) (Ck PCk : bB → Option Int) (Pl : bB → Option (Int × Int)) (My : bB → Option (List Int × Int)) (L : List Int → bB → Option Bool) {b : Bool} {c : Int} (hF : Fr = some b) (hC : C = some c)
  (h : b = false → c = 0 → ten = false → ∃ S1 e1 S2 e2, D1 = some (S1, e1) ∧ D2 = some (S2, e2) ∧ (e1 = 0 ∨ e1 = 1) ∧ (e2 = 0 ∨ e2 = 1) ∧ (e1 = 0 → e2 = 0 → (S1.length : Int) = n ∧ (S2.length : Int) = n ∧ ∃ c1 c2, Ch S1 = some c1 ∧ Ch S2 = some c2 ∧
   (Ck c1 = some 100 ∧ PCk c1 = some 100 ∧ PCk c2 = some 100 ∨ Ck c1 = some 0 ∧ ∃ v, Pl c1 = some (v, 0) ∧ Pl c2 = some (v, 0) ∧ ∃ r, My c1 = some (r, 0) ∧ (r.length : Int) = np ∧ L S1 c1 = some true))) :
  (Fr.bind fun r3 =>
  (bif r3 then (some true) else (C.bind fun r4 => some (!decide (r4 = 0)))).bind fun b5 =>
  (bif b5 then (some true) else (some ten)).bind fun b6 =>
  bif b6 then (W.bind fun r7 => some r7)
  else (D1.bind fun r8 =>
  D2.bind fun r9 =>
  (bif !decide (r8.2 = 0) then (some true) else (some (!decide (r9.2 = 0)))).bind fun b10 =>
  bif b10 then ((bif decide (r8.2 = 0) then (some true) else (some (decide (r8.2 = 1)))).bind fun b11 =>
  (bif b11 then ((bif decide (r9.2 = 0) then (some true) else (some (decide (r9.2 = 1)))).bind fun b12 => some b12) else (some false)).bind fun b13 =>
  (bif b13 then (W.bind fun r14 => some r14) else (some false)).bind fun b15 => some b15)
  else ((bif !decide ((r8.1.length : Int) = n) then (some true) else (some (!decide ((r9.1.length : Int) = n)))).bind fun b16 =>
  bif b16 then (some false)
  else ((Ch r8.1).bind fun r17 =>
  (Ch r9.1).bind fun r18 =>
  (Ck r17).bind fun r21 =>
  bif !decide (r21 = 0) then ((bif decide (r21 = 100) then ((PCk r17).bind fun r22 => some (decide (r22 = r21))) else (some false)).bind fun b23 =>
  (bif b23 then ((PCk r18).bind fun r24 => some (decide (r24 = r21))) else (some false)).bind fun b25 =>
  (bif b25 then (W.bind fun r26 => some r26) else (some false)).bind fun b27 => some b27)
  else ((Pl r17).bind fun r28 =>
  (Pl r18).bind fun r29 =>
  (bif !decide (r28.2 = 0) then (some true) else (some (!decide (r29.2 = 0)))).bind fun b30 =>
  (bif b30 then (some true) else (some (!decide (r28.1 = r29.1)))).bind fun b31 =>
  bif b31 then (some false)
  else ((My r17).bind fun r32 =>
  (bif !decide (r32.2 = 0) then (some true) else (some (!decide ((r32.1.length : Int) = np)))).bind fun b33 =>
  bif b33 then (some false)
  else (L r8.1 r17))))))) = some true := by
 subst hF; subst hC
 have hWt : W = some true := by cases W with
  | none => cases hW
  | some w => exact hW
 subst hWt
 cases b with
 | true => rfl
 | false =>
  by_cases hc : c = 0
  ·cases ten with
   | true => subst hc; rfl
   | false =>
    obtain ⟨S1, e1, S2, e2, rfl, rfl, h1, h2, h3⟩ := h rfl hc rfl
    rcases h1 with rfl | rfl
    ·rcases h2 with rfl | rfl
     ·obtain ⟨a1, a2, c1, c2, q1, q2, q⟩ := h3 rfl rfl
      rcases q with ⟨u1, u2, u3⟩ | ⟨u1, v, u2, u3, r, u4, u5, u6⟩
      ·simp [hc, a1, a2, q1, q2, u1, u2, u3]
      ·simp [hc, a1, a2, q1, q2, u1, u2, u3, u4, u5, u6]
     ·simp [hc]
    ·rcases h2 with rfl | rfl <;> simp [hc]
  ·simp [hc]
theorem aFh (p : bA) (x : nY) (_hp : aSo p) (hx : aEr x) : sN p x = some true := by
 obtain ⟨b, hb, _⟩ := bEq p
 unfold sN
 refine aZh _ _ (decide (10 < (x.Prizes.length : Int))) p.Size p.Persons.length iS bHg _ _ (fun S => oF p S x.Prizes) oE lJ oX (fun c => vC c.Tree [] (w64 (c.Tree.Rounds - 1)) 0) (fun S c => eC S x c BIG 0) hb (aJr p) fun _ hc ht => ?_
 have hp : mI p = true := by
  cases h : mI p with
  | true => rfl
  | false => rw [h] at hc; cases hc
 have ht : x.Prizes.length ≤ 10 := by have := of_decide_eq_false ht; omega
 have hsz := fY (shp hp)
 have pk : ∀ n : Int, okI n → ∃ S e, lL p n = some (S, e) ∧ (e = 0 ∨ e = 1) ∧ (e = 0 → ∃ l, aGs p l ∧ S = l.map (plF p)) := by
  intro n hn
  rcases bEu hp n hn.2 with h | ⟨l, hl, h⟩
  ·exact ⟨_, _, h, .inr rfl, fun e => by cases e⟩
  ·exact ⟨_, _, h, .inl rfl, fun _ => ⟨l, aHs hp hl, rfl⟩⟩
 obtain ⟨S1, e1, h1, h1e, h1l⟩ := pk x.First hx.1
 obtain ⟨S2, e2, h2, h2e, h2l⟩ := pk x.Second hx.2.1
 refine ⟨S1, e1, S2, e2, h1, h2, h1e, h2e, fun z1 z2 => ?_⟩
 obtain ⟨l, hl, rfl⟩ := h1l z1
 obtain ⟨m, hm, rfl⟩ := h2l z2
 have sz : ∀ l : List Int, aGs p l → Sz (eG p (l.map (plF p)) x.Prizes) := fun l hl => aNx hp hl _ (by omega)
 have hn : p.Persons.length ≤ 100 := by omega
 refine ⟨by rw [List.length_map]; exact hl.len, by rw [List.length_map]; exact hm.len, _, _, aUa p hn _ _, aUa p hn _ _, ?_⟩
 have k1 := aUb hp hl x.Prizes
 have k2 := aUb hp hm x.Prizes
 have kk : nD (eG p (m.map (plF p)) x.Prizes) = nD (eG p (l.map (plF p)) x.Prizes) := rfl
 rw [kk] at k2
 cases hz : nD (eG p (l.map (plF p)) x.Prizes) with
 | false =>
  rw [hz] at k1 k2
  exact .inl ⟨by rw [bAn (sz l hl), k1]; rfl, by rw [aQe (sz l hl), k1]; rfl, by rw [aQe (sz m hm), k2]; rfl⟩
 | true =>
  rw [hz] at k1 k2
  obtain ⟨d1, g1⟩ := aYu (sz l hl) k1
  obtain ⟨d2, g2⟩ := aYu (sz m hm) k2
  refine .inr ⟨by rw [bAn (sz l hl), k1]; rfl, _, bEn (sz l hl) g1, ?_, ?_⟩
  ·rw [bEn (sz m hm) g2, aQj hp hm, aQj hp hl]
  ·obtain ⟨r, q1, q2⟩ := bBi hp hl
   exact ⟨r, q1, q2, aWt hp hl k1 ht⟩
end Go.Am
