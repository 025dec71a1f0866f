/- Plain laws, one behind the other. -/
import Derived.Test.YtiohgpipanopaaaGreatDrPlain3
import Derived.Test.YtiohgpipanopaaaGreatBkLucky1
import Derived.Test.YtiohgpipanopaaaGreatBbDet
import Derived.KernelRfl
section
namespace Go.Am
theorem aId : ∀ (n i : Nat) (d E : List Int) (U : List aE), i + n ≤ d.length → dU [] n i d E U = some (d, U)
 | 0, _, _, _, _, _ => rfl
 | n + 1, i, d, E, U, h => by
  have hs : cY [] (i : Int) (([] : List aE).length + 1) (d.getD i 0) E U = some (d.getD i 0, E, U) := rfl
  unfold dU
  rw [hs]
  have hset : d.set i (d.getD i 0) = d := by rw [aZ (show i < d.length by omega)]; exact List.set_getElem_self _
  simp only [hset]
  exact aId n (i + 1) d E U (by omega)
theorem aNr (t : aJ) : fT t [] = some t.Slots := by
 have hL : cF [] = [] := rfl
 unfold fT vQ
 rw [hL, aId _ _ _ _ _ (by omega)]
 rfl
theorem aNf {t : aJ} (ht : qB t = true) {l : List aE} (hl : l.length ≤ 60) (hs : ∀ s ∈ l, eI t s = true) (hk : ∀ s ∈ l, s.Kind = 5) {d : List Int} (h : fT t l = some d) : Good t l d := by
 have hT := lY ht
 have hD := tJ hT hs h
 refine ⟨ht, hl, hs, h, ⟨fun x hx y hy h5 => absurd (hk x hx) h5, fun x hx => absurd (hk x hx.1) hx.2, ?_⟩⟩
 intro m v w h1 h2
 rcases h1 with ⟨i, hi, bi, hm, hv⟩ | ⟨x, hx, _⟩
 ·rcases h2 with ⟨j, hj, bj, hm', hw⟩ | ⟨x, hx, _⟩
  ·have := aHm hT hD hi hj bi bj (hm.symm.trans hm')
   subst this
   rw [hv, hw]
  ·exact absurd (hk x hx.1) hx.2
 ·exact absurd (hk x hx.1) hx.2
theorem aTp {p : aU} (hp : kU p = true) {S : List Int} (hS : (List.range S.length).all (nN p S) = true) (hl : (S.length : Int) = p.Size) {R : Int} (hR : R = if p.Size = 4 then 2 else 3) (hb : ∀ j (_ : 2 * j + 1 < S.length), ¬ (S.getD (2 * j) 0 = -1 ∧ S.getD (2 * j + 1) 0 = -1)) : qB ⟨R, S⟩ = true := by
 simp only [kU, Bool.and_eq_true] at hp
 obtain ⟨hsz, _, _, h8, _⟩ := oJ hp.1
 have hs := fD.1 hS
 have hper := fD.1 hp.2.1
 have hsh : lG ⟨R, S⟩ = true := by
  simp only [lG, Bool.and_eq_true, fU, decide_eq_true_eq]
  rcases hsz with h | h
  ·rw [hR, if_pos h]
   have : S.length = 4 := by omega
   rw [this]
   exact ⟨⟨by decide, by decide⟩, by decide⟩
  ·rw [hR, if_neg (by omega)]
   have : S.length = 8 := by omega
   rw [this]
   exact ⟨⟨by decide, by decide⟩, by decide⟩
 have hev : S.length % 2 = 0 := by rcases hsz with h | h <;> omega
 unfold qB
 rw [hsh, Bool.true_and]
 refine (aDu hev).2 ⟨fun i hi => ?_, fun j hj h => ?_, fun i hi k hk he => ?_⟩
 ·have := hs i hi
  simp only [nN, aZ hi, Bool.or_eq_true, decide_eq_true_eq, Bool.and_eq_true] at this
  rcases this with h | ⟨h, _⟩
  ·rw [h]; omega
  ·obtain ⟨q, hq⟩ := Option.isSome_iff_exists.1 h
   obtain ⟨h1, h2⟩ := uS hq
   have := hper q h1
   simp only [aBz, Bool.and_eq_true, fU] at this
   rw [← h2]
   omega
 ·have := hb j hj
  rw [aZ (show 2 * j < S.length by omega), aZ hj] at this
  exact fun h2 => this ⟨h, h2⟩
 ·have := hs i hi
  simp only [nN, aZ hi, Bool.or_eq_true, decide_eq_true_eq, Bool.and_eq_true, Bool.not_eq_true', decide_eq_false_iff_not] at this
  rcases this with h | ⟨_, h⟩
  ·exact h
  ·refine absurd ?_ h
   rw [← he]
   refine List.mem_of_getElem? (i := k) ?_
   rw [List.getElem?_take_of_lt hk, List.getElem?_eq_getElem (by omega)]
theorem aLr {t : aJ} (hR : t.Rounds = 2 ∨ t.Rounds = 3) (d : List Int) (must : List (List Int)) :
  (iW t d must).length = 2 ^ t.Rounds.toNat - 1 ∧ ∀ j, j < 2 ^ (t.Rounds.toNat - 1) → (iW t d must)[j]? = some ⟨0, (j : Int), d.getD (2 * j) 0, d.getD (2 * j + 1) 0⟩ := by
 have h0 : ∀ q, nW d must 0 q = d.getD q 0 := fun q => by simp [nW]
 rcases hR with h | h
 ·have e : iW t d must = gG t d must 0 ++ gG t d must 1 := by simp [iW, h, List.range_succ]
  have l0 : (gG t d must 0).length = 2 := by simp [gG, bY, h]
  have l1 : (gG t d must 1).length = 1 := by simp [gG, bY, h]
  rw [e, h]
  refine ⟨by simp [l0, l1], fun j hj => ?_⟩
  have hj : j < 2 := hj
  rw [List.getElem?_append_left (by omega)]
  simp only [gG, bY, h]
  rw [List.getElem?_map, List.getElem?_range (by simpa using hj)]
  simp [h0]
 ·have e : iW t d must = gG t d must 0 ++ (gG t d must 1 ++ gG t d must 2) := by simp [iW, h, List.range_succ]
  have l0 : (gG t d must 0).length = 4 := by simp [gG, bY, h]
  have l1 : (gG t d must 1).length = 2 := by simp [gG, bY, h]
  have l2 : (gG t d must 2).length = 1 := by simp [gG, bY, h]
  rw [e, h]
  refine ⟨by simp [l0, l1, l2], fun j hj => ?_⟩
  have hj : j < 4 := hj
  rw [List.getElem?_append_left (by omega)]
  simp only [gG, bY, h]
  rw [List.getElem?_map, List.getElem?_range (by simpa using hj)]
  simp [h0]
end Go.Am
end
section
namespace Go.Am
theorem aQo {p : aU} {zs r : List Int} (h1 : nO p = qV p zs) (h2 : aJb zs (fun y5 y6 => mY y5 y6 p) = true) (h3 : jU (fun y5 y6 => mY y5 y6 p) zs = r) (h4 : zs.length ≤ 8) : nO p = some (-1 :: r) := by
 have hl : r.length ≤ 8 := by rw [← h3, jU, (List.mergeSort_perm _ _).length_eq]; exact h4
 rw [h1, qV, pW, aJd, if_pos ⟨h2, by omega⟩, Option.bind_some, h3, gZ (by simp; omega)]
 rfl
def exP : aU := ⟨4, 1, [⟨10, 1, false⟩, ⟨20, 2, false⟩, ⟨30, 1, false⟩], [5, 4]⟩
theorem aHo : nO exP = some [-1, 0, 1, 2] := by
 refine aQo (zs := [0, 1, 2]) (r := [0, 1, 2]) (by kernel_rfl) (of_decide_eq_true (by kernel_rfl)) ?_ (by decide)
 unfold jU
 refine List.mergeSort_of_pairwise ?_
 exact of_decide_eq_true (by kernel_rfl)
theorem aOp : rK exP = some (2, 0) := by
 unfold rK
 rw [aHo]
 kernel_rfl
theorem aRh : tF exP 1 = some ([10, -1, 30, 20], true) := by
 unfold tF
 rw [aHo]
 kernel_rfl
theorem aQn : qU exP = some ([10, -1, 30, 20], 0) := by
 unfold qU
 rw [aOp]
 have e : mX 2 exP.Lots (exP.Lots.length : Int) exP BIG 0 0 = rP 2 9 exP := by kernel_rfl
 show mX 2 exP.Lots (exP.Lots.length : Int) exP BIG 0 0 = _
 rw [e]
 unfold rP
 have e2 : (9 : Int).tmod 2 = 1 := by decide
 rw [e2, aRh]
 rfl
theorem aGs : dS = some true := by
 unfold dS
 unfold nA
 rw [Option.bind_some]
 show (qU exP).bind _ = _
 rw [aQn]
 kernel_rfl
end Go.Am
end
