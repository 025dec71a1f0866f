/- The plain law RankYear. -/
import Derived.Test.YtaocljlhapoieaaRankSumLaw
namespace Go.Am

theorem aAy (id : Int) : ∀ (L : List aB) (s : Bool × aB), ((∀ q ∈ L, q.Id ≠ id) ∧ L.foldl (fun s q => bif decide (q.Id = id) then (true, q) else s) s = s) ∨ ∃ q ∈ L, q.Id = id ∧ L.foldl (fun s q => bif decide (q.Id = id) then (true, q) else s) s = (true, q)
  | [], s => .inl ⟨by simp, rfl⟩
  | r :: L, s => by
    rw [List.foldl_cons]
    rcases aAy id L (bif decide (r.Id = id) then (true, r) else s) with ⟨h1, h2⟩ | ⟨q, h1, h2, h3⟩
    · by_cases hr : r.Id = id
      · rw [decide_eq_true hr, cond_true] at h2
        exact .inr ⟨r, List.mem_cons_self, hr, by rw [decide_eq_true hr, cond_true, h2]⟩
      · rw [decide_eq_false hr, cond_false] at h2
        refine .inl ⟨fun q hq => ?_, by rw [decide_eq_false hr, cond_false, h2]⟩
        rcases List.mem_cons.1 hq with rfl | hq
        · exact hr
        · exact h1 q hq
    · exact .inr ⟨q, List.mem_cons_of_mem _ h1, h2, h3⟩
theorem vO {α : Type} (p : α → Bool) : ∀ (L : List α) (s : Int), L.foldl (fun s j => bif p j then s + 1 else s) s = s + (L.filter p).length
  | [], s => by simp
  | x :: L, s => by
    rw [List.foldl_cons, vO p L]
    cases h : p x <;> simp [h]; omega
/-- The same ledger with another number of results. -/
def nF (l : aM) (C : Int) : aM := ⟨l.Players, C, l.Reports, l.Bans, l.Frozen⟩
theorem GL.counts {l : aM} {z : List aB} (h : GL l z) : GL (nF l 20) z := by
  refine ⟨?_, h.once, h.dist, h.st, h.mem, h.len, h.ncl⟩
  have := h.led
  unfold iM inB at this ⊢
  unfold nF
  simp only [Bool.and_eq_true, decide_eq_true_eq] at this ⊢
  obtain ⟨⟨⟨⟨⟨⟨h1, h2⟩, h3⟩, h4⟩, h5⟩, h6⟩, h7⟩ := this
  exact ⟨⟨⟨⟨⟨⟨h1, by omega⟩, h3⟩, h4⟩, h5⟩, h6⟩, h7⟩
theorem aFk {C : Int} {all : List aB} (hall : all.Pairwise fun x y => x.Id < y.Id) (hok : ∀ x ∈ all, okT x) (hb : all.length ≤ 1000) (hC : (all.length : Int) ≤ C) : kD C all = all := by
  have := aEy (C := C) hall hok hb (by omega)
  have hl : (kD C all).length = all.length := by omega
  exact List.filter_sublist.eq_of_length hl
theorem GL.len_le {l : aM} {z : List aB} (h : GL l z) : z.length ≤ l.Reports.length := by
  obtain ⟨z', d1, _, _, _, d5⟩ := wD l.Reports (by have := lR h.led; omega)
  rw [h.dist] at d1
  injection d1 with d1
  rwa [d1]
theorem aEp (fz : Int) (ids : List Int) (l : aM) (x : gB) (r : aB) (hb : ids.length ≤ 1000000) : fF fz ids 0 l x r BIG false 0 = jC fz 0 (ids.any fun y => decide (y = r.Id)) l x r := by
  have main := iX (fun k j isv => fF fz ids 0 l x r k isv j) ids (fun isv y => isv || decide (y = r.Id)) (fun isv => jC fz 0 isv l x r) false ?_ ?_ BIG (dA (by omega))
  · refine Eq.trans main ?_
    rw [aDo, Bool.false_or]
  · intro k j hj isv _
    have hlt : decide ((j : Int) < (ids.length : Int)) = true := decide_eq_true (by omega)
    simp only [fF, hlt, cond_true, dF hj, Option.bind_some, fX, cJ (show j < 9223372036854775807 by omega)]
  · intro k isv
    have hlt : decide ((ids.length : Int) < (ids.length : Int)) = false := decide_eq_false (by omega)
    simp only [fF, hlt, cond_false]
theorem tN (l : aM) (x : gB) (ok0 : yE l) (ok1 : uI x) : lY l x = some true := by
  unfold lY
  rcases aEo l x.Player x.Week ⟨ok0.2.2.1.1, ok0.2.2.2.1.1, ok0.2.2.2.2.1⟩ with h | ⟨h, z, hk⟩
  · rw [h, Option.bind_some]
    simp only [Bool.not_false, cond_true, Option.bind_some, sG]
  · rw [h, Option.bind_some, Bool.not_true, cond_false]
    have hw := hk.w0
    have hrl := hk.rl
    have hP := hk.gl.players
    have harg : pD l 0 x.Week = true := by unfold pD inB; simp; omega
    have n0 : (!decide ((0 : Int) = 0)) = false := rfl
    have main := iX (S := Bool × aB) (fun k i s => fD l x k s.1 i s.2) l.Reports (fun s q => bif decide (q.Id = x.Id) then (true, q) else s) (fun s => kO s.1 l x s.2) (false, ⟨0, 0, 0, 0, false⟩) ?_ ?_ BIG (dA (by omega))
    · refine Eq.trans main ?_
      unfold kO
      rcases aAy x.Id l.Reports (false, ⟨0, 0, 0, 0, false⟩) with ⟨h1, h2⟩ | ⟨q, h1, h2, h3⟩
      · rw [h2, aCc hk.gl harg (fun r hr => h1 r ((hk.gl.mem r).1 hr)), Option.bind_some]
        simp only [Bool.not_false, cond_true, Option.bind_some, sG, decide_true]
      · have hqz := (hk.gl.mem q).2 h1
        have hqf := rC (hk.gl.reps q hqz)
        have hf := lR hk.gl.led
        rw [h3, aCd hk.gl harg hqz h2, Option.bind_some]
        simp only [Bool.not_true, cond_false, Option.bind_some]
        by_cases hwk : x.Week < q.Week
        · rw [decide_eq_true hwk]
          simp only [cond_true, decide_true, sG, Option.bind_some]
        · rw [decide_eq_false hwk, cond_false, cond_false]
          have e1 : w64 (q.Week + 1) = q.Week + 1 + 0 := by rw [cR (by omega) (by omega)]; omega
          rw [e1]
          obtain ⟨n, hn⟩ : ∃ n, n = (x.Week - q.Week).toNat := ⟨_, rfl⟩
          have loop2 := iX (fun k i s => fE (nU l.Frozen q x.Week) 0 l x q k s (q.Week + 1 + i)) (List.range n) (fun s j => bif gQ l.Frozen q.Player (q.Week + 1 + (j : Nat)) then s + 1 else s) (fun s => kP (nU l.Frozen q x.Week) 0 s l x q) 0 ?_ ?_ BIG (dA (by simp; omega))
          · refine Eq.trans loop2 ?_
            rw [vO]
            obtain ⟨fz, hfz⟩ : ∃ fz : Nat, fz = ((List.range n).filter fun j => gQ l.Frozen q.Player (q.Week + 1 + (j : Nat))).length := ⟨_, rfl⟩
            rw [← hfz]
            have hcn := aAj (List.range n) fun j => gQ l.Frozen q.Player (q.Week + 1 + (j : Nat))
            rw [← hfz, List.length_range] at hcn
            have hage : nU l.Frozen q x.Week = x.Week - q.Week - fz := by
              unfold nU
              rw [← hn]; omega
            unfold kP
            have e2 : w64 (x.Week - q.Week) = x.Week - q.Week := cR (by omega) (by omega)
            have e3 : w64 (x.Week - q.Week - (0 + (fz : Int))) = x.Week - q.Week - fz := by rw [cR (by omega) (by omega)]; omega
            have ha20 : pD (nF l 20) q.Player x.Week = true := by unfold pD inB nF; simp; omega
            have ht := aEh hk.gl.counts ha20
            rw [e2, e3, hage, n0, cond_false, Option.bind_some, decide_eq_true rfl, Bool.not_true, cond_false, aGt hk.gl.bd, Option.bind_some]
            show (oY (nF l 20) q.Player x.Week).bind _ = _
            rw [ht, Option.bind_some]
            have hzl : z.length ≤ 1000 := Nat.le_trans hk.gl.len (by omega)
            have hcl : (dS (nF l 20) z q.Player x.Week).length ≤ z.length := mG
            rw [aEp _ _ _ _ _ (by unfold aBv; rw [List.length_map]; exact Nat.le_trans (List.length_filter_le _ _) (by omega)), aHg hk.gl.st hqz]
            have hlen10 : z.length ≤ 10 := Nat.le_trans hk.gl.len_le hrl
            have hta : kD (nF l 20).Counts (dS (nF l 20) z q.Player x.Week) = dS (nF l 20) z q.Player x.Week := aFk (tM hk.gl.st) (qD (l := nF l 20) hk.gl.reps) (by omega) (show _ ≤ (20 : Int) by omega)
            rw [hta]
            unfold jC
            have e4 : w64 (q.Week + 52) = q.Week + 52 := cR (by omega) (by omega)
            have e5 : w64 (q.Week + 52 + (0 + (fz : Int))) = q.Week + 52 + fz := by rw [cR (by omega) (by omega)]; omega
            have hin : decide (q ∈ dS (nF l 20) z q.Player x.Week) = (decide (x.Week < q.Week + 52 + fz) && !gQ l.Bans q.Player q.Week) := by
              rw [Bool.eq_iff_iff, decide_eq_true_eq]
              unfold dS zW
              rw [List.mem_filter]
              show q ∈ z ∧ (decide (q.Player = q.Player) && decide (q.Week ≤ x.Week) && decide (nU l.Frozen q x.Week < 52) && !gQ l.Bans q.Player q.Week) = true ↔ _
              rw [hage]
              simp only [Bool.and_eq_true, decide_eq_true_eq]
              constructor
              · rintro ⟨_, ⟨_, h8⟩, h9⟩; exact ⟨by omega, h9⟩
              · rintro ⟨h8, h9⟩; exact ⟨hqz, ⟨⟨trivial, by omega⟩, by omega⟩, h9⟩
            rw [e4, e5, zC _ _ _ (by omega), Option.bind_some, gC, Option.bind_some, hin]
            simp only [decide_true, cond_true, Option.bind_some, sG]
          · intro k i hi s hs
            have hi' : i < n := by simpa using hi
            have hlt : decide (q.Week + 1 + (i : Int) ≤ x.Week) = true := decide_eq_true (by omega)
            have eg : (List.range n)[i] = i := by simp
            have e2 : w64 (q.Week + 1 + (i : Int) + 1) = q.Week + 1 + ((i + 1 : Nat) : Int) := by rw [cR (by omega) (by omega)]; omega
            have hsb : s = 0 + ((((List.range n).take i).filter fun j => gQ l.Frozen q.Player (q.Week + 1 + (j : Nat))).length : Int) := by rw [hs, vO]
            have hsl : (((List.range n).take i).filter fun j => gQ l.Frozen q.Player (q.Week + 1 + (j : Nat))).length ≤ i := Nat.le_trans (List.length_filter_le _ _) (by simp; omega)
            have e3 : w64 (s + 1) = s + 1 := cR (by omega) (by omega)
            simp only [fE, hlt, cond_true, zC _ _ _ (show l.Frozen.length ≤ 1000000 by omega), Option.bind_some, e2, e3, eg]
            cases gQ l.Frozen q.Player (q.Week + 1 + (i : Int)) <;> rfl
          · intro k s
            have hlt : decide (q.Week + 1 + ((List.range n).length : Int) ≤ x.Week) = false := decide_eq_false (by simp; omega)
            simp only [fE, hlt, cond_false]
    · intro k i hi s hs
      have hlt : decide ((i : Int) < (l.Reports.length : Int)) = true := decide_eq_true (by omega)
      simp only [fD, hlt, cond_true, dF hi, Option.bind_some, cJ (show i < 9223372036854775807 by omega)]
      cases decide (l.Reports[i].Id = x.Id) <;> rfl
    · intro k s
      have hlt : decide ((l.Reports.length : Int) < (l.Reports.length : Int)) = false := decide_eq_false (by omega)
      simp only [fD, hlt, cond_false]
end Go.Am
