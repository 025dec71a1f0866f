/- The plain law RankList. -/
import Derived.Test.YtaocljlhapoieaaRankDefendsLaw
import Derived.Test.YtaocljlhapoieaaRkPlain18
namespace Go.Am

/-- The Id of one more report. -/
def vO (rs : List aC) : Int := rs.foldl (fun a r => max a (r.Id + 1)) 0
theorem aBc : ∀ (rs : List aC) (a : Int), a ≤ rs.foldl (fun a r => max a (r.Id + 1)) a ∧ (∀ r ∈ rs, r.Id < rs.foldl (fun a r => max a (r.Id + 1)) a) ∧ ∀ M : Int, a ≤ M → (∀ r ∈ rs, r.Id + 1 ≤ M) → rs.foldl (fun a r => max a (r.Id + 1)) a ≤ M
  | [], a => ⟨Int.le_refl _, by simp, fun M h _ => h⟩
  | r :: rs, a => by
    rw [List.foldl_cons]
    obtain ⟨h1, h2, h3⟩ := aBc rs (max a (r.Id + 1))
    refine ⟨by omega, fun q hq => ?_, fun M hM hr => h3 M (by have := hr r (by simp); omega) fun q hq => hr q (List.mem_cons_of_mem _ hq)⟩
    rcases List.mem_cons.1 hq with rfl | hq
    · omega
    · exact h2 q hq
theorem aCj {rs : List aC} (h : ∀ r ∈ rs, 0 ≤ r.Id ∧ r.Id ≤ 1000) : (0 ≤ vO rs ∧ vO rs ≤ 1001) ∧ ∀ r ∈ rs, r.Id < vO rs := by
  obtain ⟨h1, h2, h3⟩ := aBc rs 0
  unfold vO
  exact ⟨⟨h1, h3 1001 (by omega) fun r hr => by have := h r hr; omega⟩, h2⟩
theorem aIz {l : aP} (hb : Bd l) (hi : ∀ r ∈ l.Reports, 0 ≤ r.Id ∧ r.Id ≤ 1000) (p w n : Int) : mP l p w n = some (lQ l ⟨vO l.Reports, p, w, n, false⟩) := by
  have h1 := hb.1
  unfold mP
  rw [aHa hb, Option.bind_some]
  have main := kD (fun k i s => hZ p w n l (aP.mk 0 0 [] [] []) l.Players l.Counts l.Reports l.Bans l.Frozen k s i) l.Reports (fun a r => max a (r.Id + 1)) (fun s => mQ p w n s (aP.mk 0 0 [] [] []) l.Players l.Counts l.Reports l.Bans l.Frozen) 0 ?_ ?_ BIG (dD (by omega))
  · refine Eq.trans main ?_
    unfold mQ
    rw [jL (by simp; omega), Option.bind_some]; rfl
  · intro k i hil s _
    have hlt : decide ((i : Int) < (l.Reports.length : Int)) = true := decide_eq_true (by omega)
    have hr := hi _ (List.getElem_mem hil)
    simp only [hZ, hlt, cond_true, dK hil, Option.bind_some, cP (show i < 9223372036854775807 by omega), cW (show -9223372036854775808 ≤ l.Reports[i].Id + 1 by omega) (by omega)]
  · intro k s
    have hlt : decide ((l.Reports.length : Int) < (l.Reports.length : Int)) = false := decide_eq_false (by omega)
    simp only [hZ, hlt, cond_false]
theorem IsList.len_le {l : aP} {z : List aC} {w : Int} {out : List Int} (h : IsList l z w out) (hP : 0 ≤ l.Players) : (out.length : Int) ≤ l.Players := by
  have hnr : ((List.range l.Players.toNat).map fun n : Nat => (n : Int)).Nodup := List.Pairwise.map _ (fun a b h => by omega) (List.nodup_range (n := l.Players.toNat))
  have := aDs h.nodup hnr fun x hx => by
    have := (h.mem x).1 hx
    exact List.mem_map.2 ⟨x.toNat, List.mem_range.2 (by omega), by omega⟩
  rw [List.length_map, List.length_range] at this
  omega
theorem aFg {α β : Type} (f : α → β) (L : List α) (s : β) {i : Nat} (hi : i < L.length) : (L.take (i + 1)).foldl (fun _ q => f q) s = f L[i] := by
  rw [List.take_succ_eq_append_getElem hi, List.foldl_append]; rfl
theorem aHo {l : aP} {z : List aC} {x : kC} (hk : Look l z x.Player x.Week) {n : Int} (hn : 0 ≤ n ∧ n ≤ 2000) (hr9 : l.Reports.length ≤ 9) : jC n l x = some true := by
  have hw := hk.w0
  have hf := mD hk.gl.led
  have hb := hk.gl.bd
  have hids : ∀ r ∈ l.Reports, 0 ≤ r.Id ∧ r.Id ≤ 99 := fun r hr => (xR (hf.2.2.2.2.2.1 r hr)).1
  have hnx := aCj (rs := l.Reports) fun r hr => by have := hids r hr; omega
  obtain ⟨r, hr⟩ : ∃ r, r = aC.mk (vO l.Reports) x.Player x.Week n false := ⟨_, rfl⟩
  unfold jC
  rw [aIz hb (fun r hr => by have := hids r hr; omega), Option.bind_some, ← hr, zK (lQ l r) (by unfold lQ; simp; omega) (by show l.Bans.length ≤ _; omega) (by show l.Frozen.length ≤ _; omega), Option.bind_some]
  by_cases hc : oA (lQ l r) = 0
  · rw [decide_eq_true hc, Bool.not_true, cond_false]
    obtain ⟨zo, hzo⟩ := aGp hc
    have hze := aIx hk.gl hzo (fun q hq => by rw [hr]; exact hnx.2 q hq)
    subst hze
    have hP := hk.pl
    have hao : tN (lQ l r) x.Player x.Week = true := hk.arg
    have hPo : (lQ l r).Players ≤ 12 := by show l.Players ≤ 12; omega
    rw [uZ hk.gl hk.arg, Option.bind_some, uZ hzo hao, Option.bind_some]
    have hle := aEd x.Week hk.gl hzo.st hzo.reps (show r.Must = false by rw [hr]) x.Player
    have n0 : (!decide ((0 : Int) = 0)) = false := rfl
    rw [n0, cond_false, Option.bind_some, cond_false, decide_eq_false (show ¬ lR (lQ l r) (z ++ [r]) x.Player x.Week < lR l z x.Player x.Week by omega), Option.bind_some, cond_false]
    rw [wC hk.gl (by omega) hk.arg, Option.bind_some, wC hzo hPo hao, Option.bind_some]
    have hL := (hk.gl.list hw.1 (by omega) (by omega)).2.1
    have hLo := (hzo.list hw.1 (by omega) hPo).2.1
    have fin : ∀ b : Bool, b = false → (Option.bind (some b) fun b36 => bif b36 then some false else (jG).bind fun r37 => some r37) = some true := by
      rintro _ rfl
      rw [Option.bind_some, cond_false, sI, Option.bind_some]
    by_cases hp : x.Player ∈ fY l z x.Week
    · have hpo : x.Player ∈ fY (lQ l r) (z ++ [r]) x.Week := (hLo.mem _).2 ⟨((hL.mem _).1 hp).1, zI x.Week ((hL.mem _).1 hp).2⟩
      have q1 : jU (fY l z x.Week) x.Player ≠ 0 := fun h => uY.1 h hp
      have q2 : jU (fY (lQ l r) (z ++ [r]) x.Week) x.Player ≠ 0 := fun h => uY.1 h hpo
      unfold vS
      rw [decide_eq_false q1, decide_eq_false q2, cond_false, cond_false, decide_eq_true rfl, cond_true, Bool.not_true, cond_false]
      by_cases hgt : lR l z x.Player x.Week < lR (lQ l r) (z ++ [r]) x.Player x.Week
      · have := aEz x.Week hL hLo hp hgt (by rw [hr])
        rw [decide_eq_true hgt, cond_true, decide_eq_false (by omega)]
        exact fin _ rfl
      · rw [decide_eq_false hgt, cond_false]
        exact fin _ rfl
    · have q1 : jU (fY l z x.Week) x.Player = 0 := uY.2 hp
      unfold vS
      rw [decide_eq_true q1, cond_true]
      exact fin _ rfl
  · rw [decide_eq_false hc, Bool.not_false, cond_true, sI, Option.bind_some]
theorem tS (l : aP) (x : kC) (n : Int) (ok0 : yN l) (ok1 : uP x) (ok2 : okI n) : mI l x n = some true := by
  unfold mI
  rcases aEw l x.Player x.Week ⟨ok0.2.2.1.1, ok0.2.2.2.1.1, ok0.2.2.2.2.1⟩ with h | ⟨h, z, hk⟩
  · rw [h, Option.bind_some]
    simp only [Bool.not_false, cond_true, Option.bind_some, sI]
  · rw [h, Option.bind_some]
    simp only [Bool.not_true, cond_false, fO, Option.bind_some]
    cases hb : (decide (9 < (l.Reports.length : Int)) || decide (n < 0) || decide (2000 < n)) with
    | true => rw [cond_true, sI, Option.bind_some]
    | false =>
      simp only [Bool.or_eq_false_iff, decide_eq_false_iff_not] at hb
      have hw := hk.w0
      have hP := hk.pl
      have hPg := hk.gl.players
      obtain ⟨_, hL, _⟩ := hk.gl.list hw.1 (show x.Week ≤ 1000 by omega) (by omega)
      have hll := hL.len_le (by omega)
      rw [cond_false, aFn hk.gl (by omega) (by omega), Option.bind_some]
      have n0 : (!decide ((0 : Int) = 0)) = false := rfl
      rw [n0, Bool.false_or, decide_eq_false (show ¬ l.Players < ((fY l z x.Week, (0 : Int)).1.length : Int) from Int.not_lt.2 hll), cond_false]
      have main := kD (fun k i s => fV n (fY l z x.Week) l x k s i) (fY l z x.Week) (fun _ q => lR l z q x.Week) (fun _ => jC n l x) (-1) ?_ ?_ BIG (dD (by omega))
      · refine Eq.trans main ?_
        exact aHo hk (by omega) (by omega)
      · intro k i hi s hs
        have hlt : decide ((i : Int) < ((fY l z x.Week).length : Int)) = true := decide_eq_true (by omega)
        have hm := (hL.mem _).1 (List.getElem_mem hi)
        have hag : tN l (fY l z x.Week)[i] x.Week = true := by unfold tN inB; simp; omega
        have hpl : vS (jU (fY l z x.Week) (fY l z x.Week)[i]) = ((i : Int) + 1, 0) := by
          unfold vS
          rw [aBg hL.nodup hi, decide_eq_false (by omega), cond_false]
        have hs2 : (decide (0 ≤ s) && decide (s < lR l z (fY l z x.Week)[i] x.Week)) = false := by
          cases i with
          | zero => rw [hs]; rfl
          | succ j =>
            rw [aFg (fun q => lR l z q x.Week) _ _ (show j < (fY l z x.Week).length by omega)] at hs
            have hbf := List.pairwise_iff_getElem.1 hL.st j (j + 1) (by omega) hi (by omega)
            unfold bef ltL lE at hbf
            simp only at hbf
            rw [Bool.and_eq_false_iff, decide_eq_false_iff_not, decide_eq_false_iff_not]
            right
            omega
        have e1 : w64 ((i : Int) + 1) = (i : Int) + 1 := cW (by omega) (by omega)
        have e2 : ((i + 1 : Nat) : Int) = (i : Int) + 1 := by omega
        have f1 : decide ((fY l z x.Week)[i] < 0) = false := decide_eq_false (by omega)
        have f2 : decide (l.Players ≤ (fY l z x.Week)[i]) = false := decide_eq_false (by omega)
        have f3 : iQ l (fY l z x.Week)[i] x.Week = some true := by rw [aDp hk.gl.gd hw.1 (by omega), hm.2]
        rw [fV, hlt, cond_true, dK hi, Option.bind_some, f1, cond_false, Option.bind_some, f2, Option.bind_some, cond_false, Option.bind_some, f3, Option.bind_some, Bool.not_true, Option.bind_some, cond_false, Option.bind_some, uZ hk.gl hag, Option.bind_some, Option.bind_some, wC hk.gl (by omega) hag, Option.bind_some, hpl, e1, e2]
        simp only [fO, gC, Option.bind_some, hs2, decide_true, Bool.not_true, Bool.false_or, cond_false]
        rfl
      · intro k s
        have hlt : decide (((fY l z x.Week).length : Int) < ((fY l z x.Week).length : Int)) = false := decide_eq_false (by omega)
        rw [fV, hlt, cond_false]
end Go.Am
