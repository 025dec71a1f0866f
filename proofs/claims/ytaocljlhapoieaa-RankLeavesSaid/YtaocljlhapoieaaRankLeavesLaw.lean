/- The plain law RankLeaves. -/
import Derived.Test.YtaocljlhapoieaaRankListLaw
import Derived.Test.YtaocljlhapoieaaRkPlain19
namespace Go.Am

theorem aCf (again : Int → Option Bool) (ids : List Int) (c : Int) (l : aM) (ban : aW) {k : Nat} (hk : k < ids.length) (hk2 : k < 1000000) (hb : l.Reports.length ≤ 1000000) (h : ∀ r ∈ l.Reports, r.Id = ids[k] → ¬ (ban.From ≤ r.Week ∧ r.Week ≤ ban.To)) :
    eN again ids c (k : Nat) l ban BIG 0 = again ((k + 1 : Nat) : Int) := by
  have main := jO (fun n j => eN again ids c (k : Nat) l ban n j) l.Reports.length (fun _ => true) (some false) (again ((k + 1 : Nat) : Int)) (fun n j hj => by
    have hlt : decide ((j : Int) < (l.Reports.length : Int)) = true := decide_eq_true (by omega)
    have hr := h _ (List.getElem_mem hj)
    have e : (decide (l.Reports[j].Id = ids[k]) && decide (ban.From ≤ l.Reports[j].Week) && decide (l.Reports[j].Week ≤ ban.To)) = false := by
      rw [Bool.eq_false_iff]
      intro hn
      simp only [Bool.and_eq_true, decide_eq_true_eq] at hn
      exact hr hn.1.1 ⟨hn.1.2, hn.2⟩
    simp only [eN, hlt, cond_true, dD hj, dD hk, Option.bind_some, fO, e, cond_false, cF (show j < 9223372036854775807 by omega)]) (fun n => by
    have hlt : decide ((l.Reports.length : Int) < (l.Reports.length : Int)) = false := decide_eq_false (by omega)
    simp only [eN, hlt, cond_false, lV, lU, cF (show k < 9223372036854775807 by omega)]) BIG (dB (by omega))
  refine Eq.trans main ?_
  rw [show (List.range _).all (fun _ => true) = true from List.all_eq_true.2 fun _ _ => rfl]; rfl
theorem aCh (ids : List Int) (l : aM) (ban : aW) (hi : ids.length ≤ 1000) (hb : l.Reports.length ≤ 1000000) (h : ∀ i ∈ ids, ∀ r ∈ l.Reports, r.Id = i → ¬ (ban.From ≤ r.Week ∧ r.Week ≤ ban.To)) : eE ids 0 l ban BIG 0 = some true := by
  have main := jO (fun n k => eE ids 0 l ban n k) ids.length (fun _ => true) (some false) (some true) (fun n k hk => by
    have hlt : decide ((k : Int) < (ids.length : Int)) = true := decide_eq_true (by omega)
    simp only [eE, hlt, cond_true]
    exact aCf _ ids 0 l ban hk (by omega) hb (h _ (List.getElem_mem hk))) (fun n => by
    have hlt : decide ((ids.length : Int) < (ids.length : Int)) = false := decide_eq_false (by omega)
    simp only [eE, hlt, cond_false, lT, decide_true, cond_true, yL, Option.bind_some]) BIG (dB (by omega))
  refine Eq.trans main ?_
  rw [show (List.range _).all (fun _ => true) = true from List.all_eq_true.2 fun _ _ => rfl]; rfl
/-- Slices that lie in a machine. -/
def aEh (l : aM) : Prop := l.Reports.length * 40 ≤ 140737488351232 ∧ l.Bans.length * 24 ≤ 140737488351232 ∧ l.Frozen.length * 24 ≤ 140737488351232
theorem aFa {l : aM} (h : aEh l) : mK l = some l := by
  obtain ⟨h1, h2, h3⟩ := h
  unfold mK
  rw [hY (by simp; omega), Option.bind_some, hY (by simp; omega), Option.bind_some, hY (by simp; omega), Option.bind_some]
  simp
theorem sT (l : aM) (ban : aW) (x : jB) (ok0 : yF l) (hfit : aEh l) : lD l ban x = some true := by
  have works : (kG).bind (fun r14 => some r14) = some true := by rw [yL, Option.bind_some]
  unfold lD
  rw [aFa hfit, Option.bind_some, hY (by have := hfit.2.1; simp; omega), Option.bind_some]
  show (gM l x.Player x.Week).bind _ = _
  rcases zZ l x.Player x.Week ⟨ok0.2.2.1.1, ok0.2.2.2.1.1, ok0.2.2.2.2.1⟩ with h | ⟨h, z, hk⟩
  · rw [h, Option.bind_some, Bool.not_false, cond_true, Option.bind_some, cond_true, works]
  · rw [h, Option.bind_some, Bool.not_true, cond_false]
    show ((gM (gE l ban) x.Player x.Week).bind fun r12 => some (!r12)).bind _ = _
    rcases zZ (gE l ban) x.Player x.Week ⟨ok0.2.2.1.1, by have := hfit.2.1; unfold gE maxLen; simp; omega, ok0.2.2.2.2.1⟩ with h' | ⟨h', zo, hk'⟩
    · rw [h', Option.bind_some, Bool.not_false, Option.bind_some, cond_true, works]
    · have : zo = z := aFf hk'.gl hk.gl fun _ => Iff.rfl
      subst this
      have hw := hk.w0
      have hP := hk.pl
      have hPo : (gE l ban).Players ≤ 12 := by show l.Players ≤ 12; omega
      have hPp : 0 ≤ l.Players := by have := hk.gl.players; omega
      obtain ⟨_, hL, _⟩ := hk.gl.list hw.1 (show x.Week ≤ 1000 by omega) (by omega)
      obtain ⟨_, hL', _⟩ := hk'.gl.list hw.1 (show x.Week ≤ 1000 by omega) hPo
      rw [h', Option.bind_some, Bool.not_true, Option.bind_some, cond_false, aBa hk.gl (by omega) (by omega), Option.bind_some]
      show (nM (gE l ban) x.Week).bind _ = _
      rw [aBa hk'.gl hPo (by omega), Option.bind_some, yH hk.gl hk.arg, Option.bind_some]
      show (nD (gE l ban) x.Player x.Week).bind _ = _
      rw [yH hk'.gl hk'.arg, Option.bind_some]
      have n0 : (!decide ((0 : Int) = 0)) = false := rfl
      rw [n0, cond_false, Option.bind_some, cond_false, Option.bind_some, cond_false, Option.bind_some, cond_false, fO, Option.bind_some]
      have hpt : (!decide (x.Player = ban.Player) && !decide (qY l zo x.Player x.Week = qY (gE l ban) zo x.Player x.Week)) = false := by
        by_cases hp : x.Player = ban.Player
        · rw [decide_eq_true hp]; rfl
        · rw [aDr ban x.Week hp, decide_eq_true rfl]; simp
      rw [hpt, Option.bind_some, cond_false]
      have hll := hL.len_le hPp
      have hll' := hL'.len_le hPp
      have hll'' : ((oJ (gE l ban) zo x.Week).length : Int) ≤ l.Players := hll'
      obtain ⟨a, ha⟩ : ∃ a, a = oJ l zo x.Week := ⟨_, rfl⟩
      obtain ⟨b, hb⟩ : ∃ b, b = oJ (gE l ban) zo x.Week := ⟨_, rfl⟩
      rw [← ha] at hL hll ⊢
      rw [← hb] at hL' hll'' ⊢
      have main := pP (fun k i s => eL (gE l ban) a b l ban x [] k i s) a (fun p => !decide (p = ban.Player)) (fun s => jL (gE l ban) b l ban x s []) ?_ ?_ BIG (dB (by omega))
      · refine Eq.trans main ?_
        unfold jL
        have main2 := pP (fun k i s => eM (gE l ban) b l ban x (a.filter fun p => !decide (p = ban.Player)) k i s) b (fun p => !decide (p = ban.Player)) (fun s => jM (gE l ban) l ban x (a.filter fun p => !decide (p = ban.Player)) s) ?_ ?_ BIG (dB (by omega))
        · refine Eq.trans main2 ?_
          unfold jM
          have hfl : (a.filter fun p => !decide (p = ban.Player)).length ≤ 1000000 := Nat.le_trans (List.length_filter_le _ _) (by omega)
          rw [aDl _ _ hfl, Option.bind_some, decide_eq_true (aFw ban x.Week hL hL'), Bool.not_true, cond_false]
          by_cases hbp : 0 ≤ ban.Player ∧ ban.Player < l.Players
          · have hab : qQ (gE l ban) ban.Player x.Week = true := by unfold qQ inB gE; simp; omega
            rw [aEp hk'.gl hab, Option.bind_some]
            have hzl := hk.gl.len
            have hcl : (dS (gE l ban) zo ban.Player x.Week).length ≤ zo.length := kU
            refine aCh _ l ban (by unfold aCd; rw [List.length_map]; exact Nat.le_trans (List.length_filter_le _ _) (by omega)) (by have := hk.rl; omega) fun i hi r hr he => ?_
            exact aEy ban x.Week hk.gl.st ((hk.gl.mem r).2 hr) (by rw [he]; exact hi)
          · exfalso
            have hbb := (nK hk'.gl.led).2.2.2.1.2 ban (by unfold gE; simp)
            have := (aAl hbb).1
            exact hbp ⟨this.1, by have := this.2; show ban.Player < (gE l ban).Players; omega⟩
        · intro k i hi s hs
          have hlt : decide ((i : Int) < (b.length : Int)) = true := decide_eq_true (by omega)
          have hsl : s.length ≤ i := by rw [hs]; exact Nat.le_trans (List.length_filter_le _ _) (by simp; omega)
          rw [eM, hlt, cond_true, dD hi, Option.bind_some]
          by_cases hbi : b[i] = ban.Player
          · have hnw : (decide (ban.From ≤ x.Week) && decide (x.Week ≤ ban.To)) = false := by
              rw [Bool.eq_false_iff]
              intro hn
              simp only [Bool.and_eq_true, decide_eq_true_eq] at hn
              exact aGw ban x.Week hL' hn.1 hn.2 (by rw [← hbi]; exact List.getElem_mem hi)
            rw [decide_eq_true hbi, Bool.not_true, cond_false, fO, Option.bind_some, hnw, cond_false, cond_false, cF (by omega)]
          · rw [decide_eq_false hbi, Bool.not_false, cond_true, Option.bind_some, hY (by simp; omega), Option.bind_some, cond_true, cF (by omega)]
        · intro k s
          have hlt : decide ((b.length : Int) < (b.length : Int)) = false := decide_eq_false (by omega)
          rw [eM, hlt, cond_false]
      · intro k i hi s hs
        have hlt : decide ((i : Int) < (a.length : Int)) = true := decide_eq_true (by omega)
        have hsl : s.length ≤ i := by rw [hs]; exact Nat.le_trans (List.length_filter_le _ _) (by simp; omega)
        rw [eL, hlt, cond_true, dD hi, Option.bind_some]
        cases decide (a[i] = ban.Player) with
        | true => rw [Bool.not_true, cond_false, cond_false, cF (by omega)]
        | false => rw [Bool.not_false, cond_true, Option.bind_some, hY (by simp; omega), Option.bind_some, cond_true, cF (by omega)]
      · intro k s
        have hlt : decide ((a.length : Int) < (a.length : Int)) = false := decide_eq_false (by omega)
        rw [eL, hlt, cond_false]
end Go.Am
