/- Plain laws, one behind the other. -/
import Derived.Test.YtiohgpipanopaaaGreatDrPlain7
import Derived.Test.YtiohgpipanopaaaGreatBkLucky1
section
namespace Go.Am
theorem aSq : ∀ (n i : Nat) (d E : List Int) (U : List aG), i + n ≤ d.length → kH [] n i d E U = some (d, U)
 | 0, _, _, _, _, _ => rfl
 | n + 1, i, d, E, U, h => by
  have hs : jO [] (i : Int) (([] : List aG).length + 1) (d.getD i 0) E U = some (d.getD i 0, E, U) := rfl
  unfold kH
  rw [hs]
  have hset : d.set i (d.getD i 0) = d := by rw [bM (show i < d.length by omega)]; exact List.set_getElem_self _
  simp only [hset]
  exact aSq n (i + 1) d E U (by omega)
theorem aZe (t : aP) : mE t [] = some t.Slots := by
 have hL : dK [] = [] := rfl
 unfold mE aFz
 rw [hL, aSq _ _ _ _ _ (by omega)]
 rfl
theorem aYt {t : aP} (ht : tN t = true) {l : List aG} (hl : l.length ≤ 60) (hs : ∀ s ∈ l, gM t s = true) (hk : ∀ s ∈ l, s.Kind = 5) {d : List Int} (h : mE t l = some d) : Good t l d := by
 have hT := pA ht
 have hD := aDh hT hs h
 refine ⟨ht, hl, hs, h, ⟨fun x hx y hy h5 => absurd (hk x hx) h5, fun x hx => absurd (hk x hx.1) hx.2, ?_⟩⟩
 intro m v w h1 h2
 rcases h1 with ⟨i, hi, bi, hm, hv⟩ | ⟨x, hx, _⟩
 ·rcases h2 with ⟨j, hj, bj, hm', hw⟩ | ⟨x, hx, _⟩
  ·have := aRt hT hD hi hj bi bj (hm.symm.trans hm')
   subst this
   rw [hv, hw]
  ·exact absurd (hk x hx.1) hx.2
 ·exact absurd (hk x hx.1) hx.2
theorem aBh {t : aP} (ht : tN t = true) : Good t [] t.Slots := aYt ht (by simp) (by simp) (by simp) (aZe t)
theorem bGi {p : bA} (hp : mI p = true) {S : List Int} (hS : (List.range S.length).all (aTo p S) = true) (hl : (S.length : Int) = p.Size) {R : Int} (hR : R = if p.Size = 4 then 2 else 3) (hb : ∀ j (_ : 2 * j + 1 < S.length), ¬ (S.getD (2 * j) 0 = -1 ∧ S.getD (2 * j + 1) 0 = -1)) : tN ⟨R, S⟩ = true := by
 simp only [mI, Bool.and_eq_true] at hp
 obtain ⟨hsz, _, _, h8, _⟩ := fY hp.1
 have hs := kP.1 hS
 have hper := kP.1 hp.2.1
 have hsh : pM ⟨R, S⟩ = true := by
  simp only [pM, Bool.and_eq_true, jB, decide_eq_true_eq]
  rcases hsz with h | h
  ·rw [hR, if_pos h]
   have : S.length = 4 := by omega
   rw [this]
   exact ⟨⟨by decide, by decide⟩, by decide⟩
  ·rw [hR, if_neg (by omega)]
   have : S.length = 8 := by omega
   rw [this]
   exact ⟨⟨by decide, by decide⟩, by decide⟩
 have hev : S.length % 2 = 0 := by rcases hsz with h | h <;> omega
 unfold tN
 rw [hsh, Bool.true_and]
 refine (aNr hev).2 ⟨fun i hi => ?_, fun j hj h => ?_, fun i hi k hk he => ?_⟩
 ·have := hs i hi
  simp only [aTo, bM hi, Bool.or_eq_true, decide_eq_true_eq, Bool.and_eq_true] at this
  rcases this with h | ⟨h, _⟩
  ·rw [h]; omega
  ·obtain ⟨q, hq⟩ := Option.isSome_iff_exists.1 h
   obtain ⟨h1, h2⟩ := aLg hq
   have := hper q h1
   simp only [aGo, Bool.and_eq_true, jB] at this
   rw [← h2]
   omega
 ·have := hb j hj
  rw [bM (show 2 * j < S.length by omega), bM hj] at this
  exact fun h2 => this ⟨h, h2⟩
 ·have := hs i hi
  simp only [aTo, bM hi, Bool.or_eq_true, decide_eq_true_eq, Bool.and_eq_true, Bool.not_eq_true', decide_eq_false_iff_not] at this
  rcases this with h | ⟨_, h⟩
  ·exact h
  ·refine absurd ?_ h
   rw [← he]
   refine List.mem_of_getElem? (i := k) ?_
   rw [List.getElem?_take_of_lt hk, List.getElem?_eq_getElem (by omega)]
end Go.Am
end
section
namespace Go.Am
theorem aUi {bad : Nat → Bool} {n : Nat} (h : ∀ q, q < n → bad q = false) : oJ bad n = n := by
 refine Nat.le_antisymm (aGj bad n) (Nat.le_of_not_lt fun hlt => ?_)
 have := aKo hlt
 rw [h _ hlt] at this
 cases this
section
variable {t : aP} (hT : tN t = true) {must : List (List Int)} (hM : MustIs t must (gE t.Slots (Res [])))
include hT hM
omit hT hM in
theorem aFu {m : aD} {v : Int} : gE t.Slots (Res []) m v ↔ aYp t.Slots m v := by
 constructor
 ·rintro (h | ⟨x, hx, _⟩)
  ·exact h
  ·cases hx.1
 ·exact .inl
theorem aUy {a : Nat} (ha : a < t.Slots.length) (hn : t.Slots.getD a 0 ≠ -1) : xO t.Slots must a t = t.Rounds.toNat := by
 have hD := (aBh hT).dok
 refine aUi fun q hq => (bCu (pA hT) hD hM ha hq).2 fun v hv => ?_
 obtain ⟨i, hi, bi, hm, rfl⟩ := aFu.1 hv
 have hq0 : q = 0 := by
  have : (q : Int) = 0 := congrArg aD.round hm
  omega
 subst hq0
 have hp : ((a / 2 ^ (0 + 1) : Nat) : Int) = ((sib i / 2 ^ (0 + 1) : Nat) : Int) := congrArg aD.place hm
 have h2 : a / 2 = sib i / 2 := by simpa using Int.ofNat_inj.1 hp
 rcases aRf h2 with h | h
 ·rw [h]
 ·rw [aHj] at h
  rw [h] at hn
  exact absurd bi hn
theorem bBf (hR : 2 ≤ t.Rounds) {a : Nat} (ha : a < t.Slots.length) (hn : t.Slots.getD a 0 ≠ -1) : aHc t.Slots must a t = if t.Slots.getD (sib a) 0 = -1 then 1 else 0 := by
 have hD := (aBh hT).dok
 have hTr := pA hT
 have hb : ∀ q, q < t.Rounds.toNat → (aCt t.Slots must a q = false ↔ gE t.Slots (Res []) (cell a q) (t.Slots.getD a 0)) := by
  intro q hq
  have := aUv hTr hD hM ha hq (t.Slots.getD a 0)
  unfold aCt
  rw [Bool.not_eq_false', decide_eq_true_eq, ← this]
  constructor
  ·intro h
   refine ⟨h, ?_⟩
   have := hD.rng a ha
   omega
  ·exact fun h => h.1
 have h1 : aCt t.Slots must a 1 = true := by
  cases h : aCt t.Slots must a 1 with
  | true => rfl
  | false =>
   obtain ⟨i, _, _, hm, _⟩ := aFu.1 ((hb 1 (by omega)).1 h)
   have : ((1 : Nat) : Int) = ((0 : Nat) : Int) := congrArg aD.round hm
   omega
 split
 ·rename_i hs
  have h0 : aCt t.Slots must a 0 = false := by
   refine (hb 0 (by omega)).2 (aFu.2 ⟨sib a, aFa hTr ha, hs, ?_, ?_⟩)
   ·rw [aHj]
   ·rw [aHj]
  refine aNc (by omega) h1 fun q hq => ?_
  have : q = 0 := by omega
  rw [this]; exact h0
 ·rename_i hs
  refine aNc (by omega) ?_ (fun q hq => by omega)
  cases h : aCt t.Slots must a 0 with
  | true => rfl
  | false =>
   obtain ⟨i, hi, bi, hm, hv⟩ := aFu.1 ((hb 0 (by omega)).1 h)
   have hp : ((a / 2 ^ (0 + 1) : Nat) : Int) = ((sib i / 2 ^ (0 + 1) : Nat) : Int) := congrArg aD.place hm
   have h2 : a / 2 = sib i / 2 := by simpa using Int.ofNat_inj.1 hp
   rcases aRf h2 with h | h
   ·rw [h, aHj] at hs
    exact absurd bi hs
   ·rw [aHj] at h
    rw [h] at hn
    exact absurd bi hn
end
section
variable {p : bA} (hp : mI p = true) {l : List Int} (hl : aGs p l)
include hp hl
omit hp in
theorem aHe {i : Nat} (hi : i < l.length) : Num p (l.getD i 0) := by rw [bM hi]; exact hl.num _ (List.getElem_mem hi)
theorem aRh : l.length ≤ 8 ∧ l.length % 2 = 0 ∧ (p.Size = 4 ∧ l.length = 4 ∨ p.Size = 8 ∧ l.length = 8) := by
 have h1 := (fY (shp hp)).1
 have h2 := hl.len
 omega
omit hp hl in
theorem aHi {i : Nat} (hi : i < l.length) : (l.map (plF p)).getD i 0 = plF p (l.getD i 0) := by
 rw [bM (by simpa using hi), bM hi, List.getElem_map]
omit hl in
theorem vN {n : Int} (hn : Num p n) : plF p n = -1 ↔ n = -1 := by
 unfold plF
 constructor
 ·intro h
  split at h
  ·assumption
  ·rename_i hne
   obtain ⟨h1, h2⟩ := hn.resolve_left hne
   have := aEt hp (i := n.toNat) (by omega)
   unfold pn at h
   omega
 ·intro h; rw [if_pos h]
omit hl in
theorem bFs {m n : Int} (hm : Num p m) (hn : Num p n) (h : plF p m = plF p n) : m = n := by
 by_cases h1 : m = -1
 ·rw [h1] at h ⊢
  have := (vN hp hn).1 (h.symm.trans (by simp [plF]))
  exact this.symm
 ·by_cases h2 : n = -1
  ·rw [h2] at h ⊢
   exact (vN hp hm).1 (h.trans (by simp [plF]))
  ·unfold plF at h
   rw [if_neg h1, if_neg h2] at h
   obtain ⟨a1, a2⟩ := hm.resolve_left h1
   obtain ⟨b1, b2⟩ := hn.resolve_left h2
   have := aVe hp (i := m.toNat) (j := n.toNat) (by omega) (by omega) h
   omega
omit hp in
theorem aWr {j : Nat} (hj : 2 * j + 1 < l.length) : ¬ (l.getD (2 * j) 0 = -1 ∧ l.getD (2 * j + 1) 0 = -1) := by
 rintro ⟨h1, h2⟩
 have := hl.pair j hj
 rw [h1, h2] at this
 simp [aFy, aGt] at this
def eS (p : bA) (l : List Int) : aP := ⟨if p.Size = 4 then 2 else 3, l.map (plF p)⟩
theorem aFe : tN (eS p l) = true := by
 have h8 := aRh hp hl
 refine bGi hp (S := l.map (plF p)) (kP.2 fun i hi => ?_) (by rw [List.length_map]; exact hl.len) rfl (fun j hj => ?_)
 ·rw [List.length_map] at hi
  have hn := aHe hl hi
  unfold aTo
  rw [aHi hi]
  by_cases hb : l.getD i 0 = -1
  ·rw [(vN hp hn).2 hb]
   simp
  ·obtain ⟨h1, h2⟩ := hn.resolve_left hb
   have hpl : plF p (l.getD i 0) = (pp p (l.getD i 0).toNat).Player := by rw [plF, if_neg hb, pn]
   obtain ⟨q, hq⟩ := aXv (p := p) (x := plF p (l.getD i 0)) ⟨(l.getD i 0).toNat, by omega, hpl.symm⟩
   have hnot : plF p (l.getD i 0) ∉ (l.map (plF p)).take i := by
    intro hm
    obtain ⟨k, hk, he⟩ := List.getElem_of_mem hm
    rw [List.length_take, List.length_map] at hk
    rw [List.getElem_take, List.getElem_map] at he
    have := hl.nd k i (by omega) hi (by rw [bM (show k < l.length by omega)]; exact bFs hp (hl.num _ (List.getElem_mem _)) hn he)
    exact hb this
   have e1 : (aIs p (plF p (l.getD i 0))).isSome = true := by rw [hq]; rfl
   rw [e1, decide_eq_false hnot]
   cases decide (plF p (l.getD i 0) = -1) <;> rfl
 ·rw [List.length_map] at hj
  rw [aHi (by omega), aHi hj]
  rintro ⟨h1, h2⟩
  exact aWr hl hj ⟨(vN hp (aHe hl (by omega))).1 h1, (vN hp (aHe hl hj)).1 h2⟩
end
end Go.Am
end
