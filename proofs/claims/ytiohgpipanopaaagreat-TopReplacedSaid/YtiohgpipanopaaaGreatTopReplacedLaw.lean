/- The plain law TopReplaced. -/
import Derived.Test.YtiohgpipanopaaaGreatDrWorks
namespace Go.Am
theorem aNc : (dS.bind fun r => some r) = some true := by rw [aGs]; rfl
theorem aPm (p : aU) : nG p = some (if p.Size = 4 then 2 else 3) := by
 unfold nG
 by_cases h : p.Size = 4
 ·rw [decide_eq_true h, if_pos h]; rfl
 ·rw [decide_eq_false h, if_neg h]; rfl
section
variable {p : aU} (hp : kU p = true) {S : List Int} (hS : (List.range S.length).all (nN p S) = true) (hl : (S.length : Int) = p.Size) (hb : ∀ j (_ : 2 * j + 1 < S.length), ¬ (S.getD (2 * j) 0 = -1 ∧ S.getD (2 * j + 1) 0 = -1))
 {t : aJ} (ht : t = ⟨if p.Size = 4 then 2 else 3, S⟩)
include hp hS hl hb ht
theorem aTq : qB t = true := by rw [ht]; exact aTp hp hS hl rfl hb
omit hS hb in
theorem aQa : t.Rounds = 2 ∧ S.length = 4 ∨ t.Rounds = 3 ∧ S.length = 8 := by
 have hsh : lR p = true := by simp only [kU, Bool.and_eq_true] at hp; exact hp.1
 rcases (oJ hsh).1 with h | h
 ·exact .inl ⟨by rw [ht]; exact if_pos h, by omega⟩
 ·exact .inr ⟨by rw [ht]; exact if_neg (by omega), by omega⟩
omit hS hb in
theorem aPk {out : List Int} (hol : out.length = S.length) {l : List aE} (hg : Good t l out) : kF out t l = some true := by
 obtain ⟨must, hd, hM⟩ := xF hg
 have hB := aEx hg hd hM
 have hr := aQa hp hl ht
 obtain ⟨b1, b2⟩ := aLr (t := t) (by rcases hr with h | h; exact .inl h.1; exact .inr h.1) out must
 have hlen : (iW t out must).length = out.length - 1 ∧ 2 ^ (t.Rounds.toNat - 1) = out.length / 2 ∧ out.length % 2 = 0 ∧ 4 ≤ out.length ∧ out.length ≤ 8 := by
  rw [b1, hol]
  rcases hr with ⟨h, h'⟩ | ⟨h, h'⟩ <;> rw [h, h'] <;> decide
 obtain ⟨c1, c2, c3, c4, c5⟩ := hlen
 unfold kF
 have hB' : pX t l = some (iW t out must, 0) := hB
 rw [jH hB']
 have e1 : ((bif !decide ((0 : Int) = 0) then (some true) else (some (!decide (((iW t out must).length : Int) = (w64 ((out.length : Int) - 1)))))) : Option Bool) = some false := by
  rw [dP (n := (out.length : Int) - 1) (by omega) (by omega), decide_eq_true (by omega : ((iW t out must).length : Int) = (out.length : Int) - 1)]
  rfl
 show (Option.bind (bif !decide ((0 : Int) = 0) then (some true) else (some (!decide (((iW t out must).length : Int) = (w64 ((out.length : Int) - 1))))) : Option Bool) fun b30 => bif b30 then (some false) else (dK out (iW t out must) BIG 0)) = some true
 rw [jH e1]
 have main := jO (fun k i => dK out (iW t out must) k (2 * i)) (out.length / 2) (fun _ => true) (some false) (some true) ?_ ?_ BIG (cC (by omega))
 ·simp only [Int.mul_zero] at main
  show dK out (iW t out must) BIG 0 = some true
  rw [main]
  have : ((List.range (out.length / 2)).all fun _ => true) = true := by simp
  rw [this]; rfl
 ·intro k j hj
  have hlt : decide (2 * (j : Int) < (out.length : Int)) = true := decide_eq_true (by omega)
  have e0 : w64 ((2 * (j : Int)).tdiv 2) = (j : Int) := by
   have : (2 * (j : Int)).tdiv 2 = (j : Int) := by rw [Int.mul_comm]; exact Int.mul_tdiv_cancel _ (by decide)
   rw [this, dP (by omega) (by omega)]
  have e2 : w64 (2 * (j : Int) + 2) = 2 * ((j + 1 : Nat) : Int) := by rw [dP (by omega) (by omega)]; omega
  have e3 : w64 (2 * (j : Int) + 1) = ((2 * j + 1 : Nat) : Int) := by rw [dP (by omega) (by omega)]; omega
  have e4 : 2 * (j : Int) = ((2 * j : Nat) : Int) := by omega
  have hj1 : 2 * j < out.length := by omega
  have hj2 : 2 * j + 1 < out.length := by omega
  have hx : idx (iW t out must) (j : Int) = some ⟨0, (j : Int), out[2 * j], out[2 * j + 1]⟩ := by
   have := b2 j (by omega)
   rw [aZ hj1, aZ hj2] at this
   obtain ⟨q1, q2⟩ := List.getElem?_eq_some_iff.1 this
   rw [bS q1, q2]
  have hi1 : idx out (2 * (j : Int)) = some out[2 * j] := by rw [e4]; exact bS hj1
  have hi2 : idx out ((2 * j + 1 : Nat) : Int) = some out[2 * j + 1] := bS hj2
  simp only [dK, hlt, cond_true, e0, hx, Option.bind_some, e2, e3, hi1, hi2, decide_true, Bool.not_true, cond_false]
 ·intro k
  have hlt : decide (2 * ((out.length / 2 : Nat) : Int) < (out.length : Int)) = false := decide_eq_false (by omega)
  simp only [dK, hlt, cond_false, mT]
  exact aNc
theorem aNu {P lucky : List Int} (hn : lucky.Nodup) (hL : ∀ x ∈ lucky, wi x 0 999 = true ∧ x ∉ S) {x : eX} (hx : x.Sheet = S) : ∀ (m : Nat), m ≤ S.length → ∀ (k : Nat) (l : List aE), m < k →
  fT t l = some (S.take m ++ (dM P S lucky).drop m) → (∀ s ∈ l, ∃ j, m ≤ j ∧ j < S.length ∧ s = ⟨5, 0, (j : Int), (dM P S lucky).getD j 0, S.getD j 0⟩ ∧ (dM P S lucky).getD j 0 ∈ lucky ∧ S.getD j 0 ≠ -1) → l.length + m ≤ S.length →
  dZ (dM P S lucky) x t k ((m : Int) - 1) l = some true := by
 have hT := aTq hp hS hl hb ht
 have hts : t.Slots = S := by rw [ht]
 have hr := aQa hp hl ht
 have hS8 : S.length ≤ 8 := by rcases hr with h | h <;> omega
 have hol := qP P S lucky
 have h9 : ∀ x ∈ lucky, x ≠ -1 := fun x hx e => by have := fU.1 (hL x hx).1; omega
 have hslip : ∀ (j : Nat), j < S.length → (dM P S lucky).getD j 0 ∈ lucky → S.getD j 0 ≠ -1 → eI t ⟨5, 0, (j : Int), (dM P S lucky).getD j 0, S.getD j 0⟩ = true := by
  intro j hj hm hne
  have h1 := (hL _ hm).1
  have h2 := (lY hT).rng j (by rw [hts]; exact hj)
  have h3 : t.Slots[j]'(by rw [hts]; exact hj) = S.getD j 0 := by rw [aZ hj]; simp [hts]
  rw [h3] at h2
  simp only [eI, if_true, Bool.and_eq_true, decide_eq_true_eq, fU, hts]
  refine ⟨fU.1 h1, ⟨trivial, by omega, by omega⟩, by omega, h2.2⟩
 intro m
 induction m with
 | zero =>
  intro _ k l hk h1 h2 h3
  obtain ⟨k, rfl⟩ : ∃ k', k = k' + 1 := ⟨k - 1, by omega⟩
  have hlt : decide ((0 : Int) ≤ ((0 : Nat) : Int) - 1) = false := by decide
  simp only [dZ, hlt, cond_false]
  refine aPk hp hl ht hol (aNf hT (by omega) (fun s hs => ?_) (fun s hs => ?_) (by simpa using h1))
  ·obtain ⟨j, _, hj, rfl, hm, hne⟩ := h2 s hs
   exact hslip j hj hm hne
  ·obtain ⟨j, _, _, rfl, _⟩ := h2 s hs
   rfl
 | succ m ih =>
  intro hm k l hk h1 h2 h3
  obtain ⟨k, rfl⟩ : ∃ k', k = k' + 1 := ⟨k - 1, by omega⟩
  have hmS : m < S.length := by omega
  have hmO : m < (dM P S lucky).length := by omega
  have hlt : decide ((0 : Int) ≤ ((m + 1 : Nat) : Int) - 1) = true := decide_eq_true (by omega)
  have ei : (((m + 1 : Nat) : Int) - 1) = (m : Int) := by omega
  have eo := aZ hmO (0 : Int)
  have es := aZ hmS (0 : Int)
  have hd1 : S.take (m + 1) ++ (dM P S lucky).drop (m + 1) = S.take m ++ S[m] :: (dM P S lucky).drop (m + 1) := by rw [List.take_succ_eq_append_getElem hmS, List.append_assoc]; rfl
  have hd2 : S.take m ++ (dM P S lucky).drop m = S.take m ++ (dM P S lucky)[m] :: (dM P S lucky).drop (m + 1) := by rw [List.drop_eq_getElem_cons hmO]
  simp only [dZ, hlt, cond_true]
  rw [ei, jH (bS hmO)]
  simp only [hx]
  rw [jH (bS hmS)]
  by_cases he : (dM P S lucky)[m] = S[m]
  ·rw [decide_eq_true he, cond_true, dP (n := (m : Int) - 1) (by omega) (by omega)]
   exact ih (by omega) k l (by omega) (by rw [hd2, he, ← hd1]; exact h1) (fun s hs => by
    obtain ⟨j, a, b⟩ := h2 s hs
    exact ⟨j, by omega, b⟩) (by omega)
  ·rw [decide_eq_false he, cond_false, jH (bS hmO)]
   by_cases hm1 : (dM P S lucky)[m] = -1
   ·rw [decide_eq_true hm1, cond_true]
    exact aNc
   ·rw [decide_eq_false hm1, cond_false, jH (bS hmO), jH (bS hmS), jH (gZ (bytes := 40) (xs := l) (ys := [(⟨5, 0, (m : Int), (dM P S lucky)[m], S[m]⟩ : aE)]) (by simp; omega)), dP (n := (m : Int) - 1) (by omega) (by omega)]
    have hmem : (dM P S lucky)[m] ∈ lucky := by
     rcases sQ P S lucky m hmS with h | h | h
     ·rw [eo, es] at h; exact absurd h he
     ·rw [eo] at h; exact absurd h hm1
     ·rw [eo] at h; exact h
    have hne : S[m] ≠ -1 := by
     intro hbye
     have := xR P S lucky m hmS (by rw [es]; exact hbye)
     rw [eo] at this
     exact hm1 this
    have hdl : (S.take (m + 1) ++ (dM P S lucky).drop (m + 1)).length = S.length := by simp; omega
    have hlm : (S.take m).length = m := by rw [List.length_take]; omega
    have hat : (S.take (m + 1) ++ (dM P S lucky).drop (m + 1)).getD m 0 = S[m] := by
     rw [hd1, List.getD, List.getElem?_append_right (by rw [hlm]; exact Nat.le_refl _), hlm, Nat.sub_self]; rfl
    have hset : (S.take (m + 1) ++ (dM P S lucky).drop (m + 1)).set m (dM P S lucky)[m] = S.take m ++ (dM P S lucky).drop m := by
     rw [hd1, hd2, List.set_append_right _ _ (by rw [hlm]; exact Nat.le_refl _), hlm, Nat.sub_self]; rfl
    refine ih (by omega) k _ (by omega) ?_ ?_ (by simp; omega)
    ·rw [← hset]
     refine aKv (lY hT) (fun s hs => ?_) h1 (s := ⟨5, 0, (m : Int), (dM P S lucky)[m], S[m]⟩) rfl (fun hs => ?_) (q := m) rfl (by rw [hdl]; exact hmS) hat ?_ (fun s hs => ?_) (fun e => he e.symm)
     ·obtain ⟨j, _, hj, rfl, hm, hne⟩ := h2 s hs
      exact hslip j hj hm hne
     ·obtain ⟨j, hj, _, e, _⟩ := h2 _ hs
      have : (m : Int) = (j : Int) := by injection e
      omega
     ·rw [hts]; exact (hL _ hmem).2
     ·obtain ⟨j, hj, hjS, rfl, _⟩ := h2 s hs
      have := aCb P S lucky hn (fun x h => (hL x h).2) h9 m j (by omega) hjS (by rw [eo]; exact hmem)
      rw [eo] at this
      exact fun e => this e.symm
    ·intro s hs
     rcases List.mem_append.1 hs with hs | hs
     ·obtain ⟨j, a, b⟩ := h2 s hs
      exact ⟨j, by omega, b⟩
     ·simp at hs
      subst hs
      exact ⟨m, Nat.le_refl _, hmS, by rw [eo, es], by rw [eo]; exact hmem, by rw [es]; exact hne⟩
end
theorem aPl {p : aU} {x : eX} (W : Option Bool) (hW : (W.bind fun r => some r) = some true) (C : Option Int) (Lg : Option Bool) (R : Option (List Int × Int)) (F : List Int → Option Bool)
  (h : p.Persons.length ≤ 40 → x.Sheet.length ≤ 40 → ∃ c, C = some c ∧ (c = 0 → (∃ b, Lg = some b) ∧ (Lg = some true → x.Players.length ≤ 20 → x.Lucky.length ≤ 20 → ∃ o e, R = some (o, e) ∧ (e = 1 ∨ e = 0 ∧ o.length = x.Sheet.length ∧ F o = some true)))) :
  ((bif decide (40 < (p.Persons.length : Int)) then (some true) else (some (decide (40 < (p.Lots.length : Int))))).bind fun b3 =>
  (bif b3 then (some true) else (some (decide (40 < (x.Sheet.length : Int))))).bind fun b4 =>
  (bif b4 then (some true) else (some (decide (20 < (x.Players.length : Int))))).bind fun b5 =>
  (bif b5 then (some true) else (some (decide (20 < (x.Lucky.length : Int))))).bind fun b6 =>
  (bif b6 then (some true) else (C.bind fun r7 => some (!decide (r7 = 0)))).bind fun b8 =>
  (bif b8 then (some true) else (Lg.bind fun r9 => some (!r9))).bind fun b10 =>
  bif b10 then (W.bind fun r11 => some r11)
  else (R.bind fun r12 =>
  bif !decide (r12.2 = 0) then ((bif decide (r12.2 = 1) then (W.bind fun r13 => some r13) else (some false)).bind fun b14 => some b14)
  else (bif !decide ((r12.1.length : Int) = (x.Sheet.length : Int)) then (some false) else (F r12.1)))) = some true := by
 simp only [kS, Option.bind_some, hW]
 cases hg : (((decide (40 < (p.Persons.length : Int)) || decide (40 < (p.Lots.length : Int))) || decide (40 < (x.Sheet.length : Int))) || decide (20 < (x.Players.length : Int))) || decide (20 < (x.Lucky.length : Int)) with
 | true => rfl
 | false =>
  simp only [Bool.or_eq_false_iff, decide_eq_false_iff_not] at hg
  obtain ⟨⟨⟨⟨g1, g2⟩, g3⟩, g4⟩, g5⟩ := hg
  obtain ⟨c, hC, hz⟩ := h (by omega) (by omega)
  subst hC
  by_cases hc : c = 0
  ·obtain ⟨⟨b, hb⟩, hR⟩ := hz hc
   rw [hb]
   cases b with
   | false => simp [hc]
   | true =>
    obtain ⟨o, e, hr, hy⟩ := hR hb (by omega) (by omega)
    subst hr
    rcases hy with rfl | ⟨rfl, h1, h2⟩
    ·simp [hc]
    ·simp [hc, h1, h2]
  ·simp [hc]
theorem vO (p : aU) (x : eX) (_hp : aIb p) (_hx : uT x) : lV p x = some true := by
 unfold lV
 have hC : ∀ _ : p.Persons.length ≤ 40, ∀ _ : x.Sheet.length ≤ 40, gL p x.Sheet = some (if kU p then (if (List.range x.Sheet.length).all (nN p x.Sheet) && decide ((x.Sheet.length : Int) = p.Size) then 0 else 61) else 60) := by
  intro h1 h2
  unfold gL
  rw [jH (aIt p)]
  cases kU p with
  | false => rfl
  | true =>
   rw [jH (aMw h1 h2)]
   cases ((List.range x.Sheet.length).all (nN p x.Sheet) && decide ((x.Sheet.length : Int) = p.Size)) <;> rfl
 have facts : ∀ c, gL p x.Sheet = some c → c = 0 → p.Persons.length ≤ 40 → x.Sheet.length ≤ 40 → kU p = true ∧ (List.range x.Sheet.length).all (nN p x.Sheet) = true ∧ (x.Sheet.length : Int) = p.Size ∧ ∀ v ∈ x.Sheet, IsP p v := by
  intro c h hc h1 h2
  rw [hC h1 h2] at h
  subst hc
  cases hp : kU p with
  | false => rw [hp] at h; cases h
  | true =>
   cases hs : ((List.range x.Sheet.length).all (nN p x.Sheet) && decide ((x.Sheet.length : Int) = p.Size)) with
   | false => rw [hp, hs] at h; cases h
   | true =>
    simp only [Bool.and_eq_true, decide_eq_true_eq] at hs
    refine ⟨rfl, hs.1, hs.2, fun v hv => ?_⟩
    obtain ⟨i, hi, rfl⟩ := List.getElem_of_mem hv
    have := fD.1 hs.1 i hi
    simp only [nN, aZ hi, Bool.or_eq_true, decide_eq_true_eq, Bool.and_eq_true] at this
    exact this.imp id fun h => Option.isSome_iff_exists.1 h.1
 ·refine aPl dS aNc _ _ _ (fun o => dY o p x BIG 0) (fun h1 h2 => ⟨_, hC h1 h2, fun hc => ⟨?_, ?_⟩⟩)
  ·obtain ⟨a, b, d, e⟩ := facts _ (hC h1 h2) hc h1 h2
   obtain ⟨r, hr, _⟩ := aFa a d e
   exact ⟨r, hr⟩
  ·intro hLg h3 h4
   obtain ⟨a, b, d, e⟩ := facts _ (hC h1 h2) hc h1 h2
   obtain ⟨r, hr, hface⟩ := aFa a d e
   rw [hLg] at hr
   have hface := hface (Option.some.inj hr).symm
   rw [aEa a b d x.Players x.Lucky (by omega) (by omega)]
   by_cases hok : (∀ y ∈ x.Players, y ≠ -1 ∧ y ∈ x.Sheet) ∧ (∀ i (_ : i < x.Lucky.length), wi x.Lucky[i] 0 999 = true ∧ x.Lucky[i] ∉ x.Sheet ∧ x.Lucky[i] ∉ x.Lucky.take i)
   ·rw [if_pos hok]
    refine ⟨_, _, rfl, .inr ⟨rfl, qP _ _ _, ?_⟩⟩
    have hS8 : x.Sheet.length ≤ 8 := by
     have hsh : lR p = true := by simp only [kU, Bool.and_eq_true] at a; exact a.1
     have := oJ hsh
     omega
    have hnd : x.Lucky.Nodup := by
     refine List.pairwise_iff_getElem.2 fun i j hi hj hij he => ?_
     refine (hok.2 j hj).2.2 ?_
     rw [← he]
     refine List.mem_of_getElem? (i := i) ?_
     rw [List.getElem?_take_of_lt hij, List.getElem?_eq_getElem hi]
    have hL : ∀ y ∈ x.Lucky, wi y 0 999 = true ∧ y ∉ x.Sheet := fun y hy => by
     obtain ⟨i, hi, rfl⟩ := List.getElem_of_mem hy
     exact ⟨(hok.2 i hi).1, (hok.2 i hi).2.1⟩
    have hnb : ∀ j (_ : 2 * j + 1 < x.Sheet.length), ¬ (x.Sheet.getD (2 * j) 0 = -1 ∧ x.Sheet.getD (2 * j + 1) 0 = -1) := fun j hj ⟨q1, q2⟩ => by
     have := hface j hj
     rw [q1, q2] at this
     simp [xK] at this
    have hK : kE (dM x.Players x.Sheet x.Lucky) p x = some true := by
     unfold kE
     rw [jH (aPm p), qP, dP (n := (x.Sheet.length : Int) - 1) (by omega) (by omega)]
     exact aNu a b d hnb rfl hnd hL rfl x.Sheet.length (Nat.le_refl _) BIG [] (cC (by omega)) (by rw [aNr]; simp [qP]) (by simp) (by simp)
    have := sP (S := Unit) (fun k i _ => dY (dM x.Players x.Sheet x.Lucky) p x k i) x.Lucky.length (fun o => o = some true) (fun i _ => i ≤ x.Lucky.length) (fun k i _ hi _ ih => ?_) (fun k i _ h5 h6 => ?_) BIG 0 () (cC (by omega)) (Nat.zero_le _)
    ·exact this
    ·simp only [dY, Int.ofNat_lt, hi, decide_true, cond_true]
     rw [jH (bS hi), jH (uH p (by omega) _)]
     cases decide (0 ≤ lW p x.Lucky[i]) with
     | true => exact aNc
     | false =>
      rw [cond_false, bW (show i < 9223372036854775807 by omega)]
      exact ih () (by omega)
    ·have : i = x.Lucky.length := by omega
     subst this
     simp only [dY, Int.lt_irrefl, decide_false, cond_false]
     exact hK
   ·rw [if_neg hok]
    exact ⟨_, _, rfl, .inl rfl⟩
end Go.Am
