/- Plain laws, one behind the other. -/
import Derived.Test.YtiohgpipanopaaaGreatDrPlain7
import Derived.Test.YtiohgpipanopaaaGreatBkLucky1
section
namespace Go.Am
theorem aJp : ∀ (n i : Nat) (d E : List Int) (U : List aE), i + n ≤ d.length → iC [] n i d E U = some (d, U)
 | 0, _, _, _, _, _ => rfl
 | n + 1, i, d, E, U, h => by
  have hs : gF [] (i : Int) (([] : List aE).length + 1) (d.getD i 0) E U = some (d.getD i 0, E, U) := rfl
  unfold iC
  rw [hs]
  have hset : d.set i (d.getD i 0) = d := by rw [bC (show i < d.length by omega)]; exact List.set_getElem_self _
  simp only [hset]
  exact aJp n (i + 1) d E U (by omega)
theorem aPk (t : aJ) : jW t [] = some t.Slots := by
 have hL : cN [] = [] := rfl
 unfold jW yP
 rw [hL, aJp _ _ _ _ _ (by omega)]
 rfl
theorem aPa {t : aJ} (ht : oP t = true) {l : List aE} (hl : l.length ≤ 60) (hs : ∀ s ∈ l, eZ t s = true) (hk : ∀ s ∈ l, s.Kind = 5) {d : List Int} (h : jW t l = some d) : Good t l d := by
 have hT := lJ ht
 have hD := wM hT hs h
 refine ⟨ht, hl, hs, h, ⟨fun x hx y hy h5 => absurd (hk x hx) h5, fun x hx => absurd (hk x hx.1) hx.2, ?_⟩⟩
 intro m v w h1 h2
 rcases h1 with ⟨i, hi, bi, hm, hv⟩ | ⟨x, hx, _⟩
 ·rcases h2 with ⟨j, hj, bj, hm', hw⟩ | ⟨x, hx, _⟩
  ·have := aIx hT hD hi hj bi bj (hm.symm.trans hm')
   subst this
   rw [hv, hw]
  ·exact absurd (hk x hx.1) hx.2
 ·exact absurd (hk x hx.1) hx.2
theorem xJ {t : aJ} (ht : oP t = true) : Good t [] t.Slots := aPa ht (by simp) (by simp) (by simp) (aPk t)
theorem aVz {p : aR} (hp : jY p = true) {S : List Int} (hS : (List.range S.length).all (aKm p S) = true) (hl : (S.length : Int) = p.Size) {R : Int} (hR : R = if p.Size = 4 then 2 else 3) (hb : ∀ j (_ : 2 * j + 1 < S.length), ¬ (S.getD (2 * j) 0 = -1 ∧ S.getD (2 * j + 1) 0 = -1)) : oP ⟨R, S⟩ = true := by
 simp only [jY, Bool.and_eq_true] at hp
 obtain ⟨hsz, _, _, h8, _⟩ := eG hp.1
 have hs := iK.1 hS
 have hper := iK.1 hp.2.1
 have hsh : lU ⟨R, S⟩ = true := by
  simp only [lU, Bool.and_eq_true, fO, decide_eq_true_eq]
  rcases hsz with h | h
  ·rw [hR, if_pos h]
   have : S.length = 4 := by omega
   rw [this]
   exact ⟨⟨by decide, by decide⟩, by decide⟩
  ·rw [hR, if_neg (by omega)]
   have : S.length = 8 := by omega
   rw [this]
   exact ⟨⟨by decide, by decide⟩, by decide⟩
 have hev : S.length % 2 = 0 := by rcases hsz with h | h <;> omega
 unfold oP
 rw [hsh, Bool.true_and]
 refine (aFi hev).2 ⟨fun i hi => ?_, fun j hj h => ?_, fun i hi k hk he => ?_⟩
 ·have := hs i hi
  simp only [aKm, bC hi, Bool.or_eq_true, decide_eq_true_eq, Bool.and_eq_true] at this
  rcases this with h | ⟨h, _⟩
  ·rw [h]; omega
  ·obtain ⟨q, hq⟩ := Option.isSome_iff_exists.1 h
   obtain ⟨h1, h2⟩ := aDf hq
   have := hper q h1
   simp only [zH, Bool.and_eq_true, fO] at this
   rw [← h2]
   omega
 ·have := hb j hj
  rw [bC (show 2 * j < S.length by omega), bC hj] at this
  exact fun h2 => this ⟨h, h2⟩
 ·have := hs i hi
  simp only [aKm, bC hi, Bool.or_eq_true, decide_eq_true_eq, Bool.and_eq_true, Bool.not_eq_true', decide_eq_false_iff_not] at this
  rcases this with h | ⟨_, h⟩
  ·exact h
  ·refine absurd ?_ h
   rw [← he]
   refine List.mem_of_getElem? (i := k) ?_
   rw [List.getElem?_take_of_lt hk, List.getElem?_eq_getElem (by omega)]
end Go.Am
end
section
namespace Go.Am
theorem aLh {bad : Nat → Bool} {n : Nat} (h : ∀ q, q < n → bad q = false) : kI bad n = n := by
 refine Nat.le_antisymm (aNf bad n) (Nat.le_of_not_lt fun hlt => ?_)
 have := xF hlt
 rw [h _ hlt] at this
 cases this
section
variable {t : aJ} (hT : oP t = true) {must : List (List Int)} (hM : MustIs t must (fF t.Slots (Res [])))
include hT hM
omit hT hM in
theorem yL {m : aD} {v : Int} : fF t.Slots (Res []) m v ↔ aOw t.Slots m v := by
 constructor
 ·rintro (h | ⟨x, hx, _⟩)
  ·exact h
  ·cases hx.1
 ·exact .inl
theorem aGb {a : Nat} (ha : a < t.Slots.length) (hn : t.Slots.getD a 0 ≠ -1) : gC t.Slots must a t = t.Rounds.toNat := by
 have hD := (xJ hT).dok
 refine aLh fun q hq => (aSh (lJ hT) hD hM ha hq).2 fun v hv => ?_
 obtain ⟨i, hi, bi, hm, rfl⟩ := yL.1 hv
 have hq0 : q = 0 := by
  have : (q : Int) = 0 := congrArg aD.round hm
  omega
 subst hq0
 have hp : ((a / 2 ^ (0 + 1) : Nat) : Int) = ((sib i / 2 ^ (0 + 1) : Nat) : Int) := congrArg aD.place hm
 have h2 : a / 2 = sib i / 2 := by simpa using Int.ofNat_inj.1 hp
 rcases aEa h2 with h | h
 ·rw [h]
 ·rw [zV] at h
  rw [h] at hn
  exact absurd bi hn
theorem aQv (hR : 2 ≤ t.Rounds) {a : Nat} (ha : a < t.Slots.length) (hn : t.Slots.getD a 0 ≠ -1) : aCw t.Slots must a t = if t.Slots.getD (sib a) 0 = -1 then 1 else 0 := by
 have hD := (xJ hT).dok
 have hTr := lJ hT
 have hb : ∀ q, q < t.Rounds.toNat → (xB t.Slots must a q = false ↔ fF t.Slots (Res []) (cell a q) (t.Slots.getD a 0)) := by
  intro q hq
  have := aLw hTr hD hM ha hq (t.Slots.getD a 0)
  unfold xB
  rw [Bool.not_eq_false', decide_eq_true_eq, ← this]
  constructor
  ·intro h
   refine ⟨h, ?_⟩
   have := hD.rng a ha
   omega
  ·exact fun h => h.1
 have h1 : xB t.Slots must a 1 = true := by
  cases h : xB t.Slots must a 1 with
  | true => rfl
  | false =>
   obtain ⟨i, _, _, hm, _⟩ := yL.1 ((hb 1 (by omega)).1 h)
   have : ((1 : Nat) : Int) = ((0 : Nat) : Int) := congrArg aD.round hm
   omega
 split
 ·rename_i hs
  have h0 : xB t.Slots must a 0 = false := by
   refine (hb 0 (by omega)).2 (yL.2 ⟨sib a, zU hTr ha, hs, ?_, ?_⟩)
   ·rw [zV]
   ·rw [zV]
  refine zB (by omega) h1 fun q hq => ?_
  have : q = 0 := by omega
  rw [this]; exact h0
 ·rename_i hs
  refine zB (by omega) ?_ (fun q hq => by omega)
  cases h : xB t.Slots must a 0 with
  | true => rfl
  | false =>
   obtain ⟨i, hi, bi, hm, hv⟩ := yL.1 ((hb 0 (by omega)).1 h)
   have hp : ((a / 2 ^ (0 + 1) : Nat) : Int) = ((sib i / 2 ^ (0 + 1) : Nat) : Int) := congrArg aD.place hm
   have h2 : a / 2 = sib i / 2 := by simpa using Int.ofNat_inj.1 hp
   rcases aEa h2 with h | h
   ·rw [h, zV] at hs
    exact absurd bi hs
   ·rw [zV] at h
    rw [h] at hn
    exact absurd bi hn
end
section
variable {p : aR} (hp : jY p = true) {l : List Int} (hl : aKu p l)
include hp hl
omit hp in
theorem aEc {i : Nat} (hi : i < l.length) : Num p (l.getD i 0) := by rw [bC hi]; exact hl.num _ (List.getElem_mem hi)
theorem aLs : l.length ≤ 8 ∧ l.length % 2 = 0 ∧ (p.Size = 4 ∧ l.length = 4 ∨ p.Size = 8 ∧ l.length = 8) := by
 have h1 := (eG (shp hp)).1
 have h2 := hl.len
 omega
omit hp hl in
theorem aDr {i : Nat} (hi : i < l.length) : (l.map (plF p)).getD i 0 = plF p (l.getD i 0) := by
 rw [bC (by simpa using hi), bC hi, List.getElem_map]
omit hl in
theorem wZ {n : Int} (hn : Num p n) : plF p n = -1 ↔ n = -1 := by
 unfold plF
 constructor
 ·intro h
  split at h
  ·assumption
  ·rename_i hne
   obtain ⟨h1, h2⟩ := hn.resolve_left hne
   have := xS hp (i := n.toNat) (by omega)
   unfold pn at h
   omega
 ·intro h; rw [if_pos h]
omit hl in
theorem aVh {m n : Int} (hm : Num p m) (hn : Num p n) (h : plF p m = plF p n) : m = n := by
 by_cases h1 : m = -1
 ·rw [h1] at h ⊢
  have := (wZ hp hn).1 (h.symm.trans (by simp [plF]))
  exact this.symm
 ·by_cases h2 : n = -1
  ·rw [h2] at h ⊢
   exact (wZ hp hm).1 (h.trans (by simp [plF]))
  ·unfold plF at h
   rw [if_neg h1, if_neg h2] at h
   obtain ⟨a1, a2⟩ := hm.resolve_left h1
   obtain ⟨b1, b2⟩ := hn.resolve_left h2
   have := aMd hp (i := m.toNat) (j := n.toNat) (by omega) (by omega) h
   omega
omit hp in
theorem aNj {j : Nat} (hj : 2 * j + 1 < l.length) : ¬ (l.getD (2 * j) 0 = -1 ∧ l.getD (2 * j + 1) 0 = -1) := by
 rintro ⟨h1, h2⟩
 have := hl.pair j hj
 rw [h1, h2] at this
 simp [sM, sE] at this
def cT (p : aR) (l : List Int) : aJ := ⟨if p.Size = 4 then 2 else 3, l.map (plF p)⟩
theorem xZ : oP (cT p l) = true := by
 have h8 := aLs hp hl
 refine aVz hp (S := l.map (plF p)) (iK.2 fun i hi => ?_) (by rw [List.length_map]; exact hl.len) rfl (fun j hj => ?_)
 ·rw [List.length_map] at hi
  have hn := aEc hl hi
  unfold aKm
  rw [aDr hi]
  by_cases hb : l.getD i 0 = -1
  ·rw [(wZ hp hn).2 hb]
   simp
  ·obtain ⟨h1, h2⟩ := hn.resolve_left hb
   have hpl : plF p (l.getD i 0) = (pp p (l.getD i 0).toNat).Player := by rw [plF, if_neg hb, pn]
   obtain ⟨q, hq⟩ := aOe (p := p) (x := plF p (l.getD i 0)) ⟨(l.getD i 0).toNat, by omega, hpl.symm⟩
   have hnot : plF p (l.getD i 0) ∉ (l.map (plF p)).take i := by
    intro hm
    obtain ⟨k, hk, he⟩ := List.getElem_of_mem hm
    rw [List.length_take, List.length_map] at hk
    rw [List.getElem_take, List.getElem_map] at he
    have := hl.nd k i (by omega) hi (by rw [bC (show k < l.length by omega)]; exact aVh hp (hl.num _ (List.getElem_mem _)) hn he)
    exact hb this
   have e1 : (aBa p (plF p (l.getD i 0))).isSome = true := by rw [hq]; rfl
   rw [e1, decide_eq_false hnot]
   cases decide (plF p (l.getD i 0) = -1) <;> rfl
 ·rw [List.length_map] at hj
  rw [aDr (by omega), aDr hj]
  rintro ⟨h1, h2⟩
  exact aNj hl hj ⟨(wZ hp (aEc hl (by omega))).1 h1, (wZ hp (aEc hl hj)).1 h2⟩
omit hp in
theorem aFb {a : Nat} (ha : a < p.Persons.length) : ∃ s, s < l.length ∧ l.getD s 0 = (a : Int) := by
 refine Classical.byContradiction fun hno => ?_
 have hno' : ∀ x ∈ l, x ≠ (a : Int) := fun x hx e => by
  obtain ⟨s, hs, rfl⟩ := List.getElem_of_mem hx
  exact hno ⟨s, hs, by rw [bC hs]; exact e⟩
 have hpw : l.Pairwise fun x y => y ≠ -1 → x ≠ y := List.pairwise_iff_getElem.2 fun i j hi hj hij hy he => by
  have := hl.nd i j hij hj (by rw [bC hi, bC hj]; exact he)
  rw [bC hj] at this
  exact hy this
 have hnd : (l.filter fun x => !decide (x = -1)).Nodup := (hpw.filter _).imp_of_mem fun {x y} _ hy h => h (by simpa using (List.mem_filter.1 hy).2)
 have hsub : ∀ x ∈ l.filter (fun x => !decide (x = -1)), x ∈ (List.range a ++ List.range' (a + 1) (p.Persons.length - a - 1)).map Int.ofNat := by
  intro x hx
  rw [List.mem_filter] at hx
  have hx2 : x ≠ -1 := by simpa using hx.2
  obtain ⟨h1, h2⟩ := (hl.num x hx.1).resolve_left hx2
  have h3 := hno' x hx.1
  refine List.mem_map.2 ⟨x.toNat, ?_, by simp; omega⟩
  rw [List.mem_append, List.mem_range, List.mem_range'_1]
  omega
 have h1 := mE hnd hsub
 have h2 : (l.filter fun x => !decide (x = -1)).length + l.count (-1) = l.length := by
  rw [List.count, List.countP_eq_length_filter]
  have : l.filter (fun x => x == (-1 : Int)) = l.filter (fun x => !(!decide (x = -1))) := by
   congr 1
   funext x
   simp
   rfl
  rw [this]
  have key : ∀ m : List Int, (m.filter fun x => !decide (x = -1)).length + (m.filter fun x => !(!decide (x = -1))).length = m.length := by
   intro m
   induction m with
   | nil => rfl
   | cons y m ih =>
    rw [List.filter_cons, List.filter_cons]
    cases decide (y = -1) with
    | true =>
     show (m.filter fun x => !decide (x = -1)).length + (y :: m.filter fun x => !(!decide (x = -1))).length = m.length + 1
     rw [List.length_cons]; omega
    | false =>
     show (y :: m.filter fun x => !decide (x = -1)).length + (m.filter fun x => !(!decide (x = -1))).length = m.length + 1
     rw [List.length_cons]; omega
  exact key l
 have h3 := hl.byes
 have h4 := hl.len
 simp only [List.length_map, List.length_append, List.length_range, List.length_range'] at h1
 omega
end
end Go.Am
end
