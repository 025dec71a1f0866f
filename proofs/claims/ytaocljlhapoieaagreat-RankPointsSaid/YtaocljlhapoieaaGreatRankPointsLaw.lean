/- The plain law RankPoints. -/
import Derived.Test.YtaocljlhapoieaaGreatRzPlain19
import Derived.Test.YtaocljlhapoieaaGreatRzWorks
namespace Go.Am

theorem aHe {l : aS} {z : List aD} (h : GL l z) {p w : Int} (ha : oI l p w = true) : iC l p w = some (aEc l z p w, 0) := by
  have hw := oT ha
  have hlen : z.length ≤ 1000 := Nat.le_trans h.len (by omega)
  unfold iC
  rw [aDy h.bd, Option.bind_some, aEw h hw.1 hw.2, decide_eq_true rfl, Bool.not_true, cond_false, aIg h hw.2.1 (by omega), Option.bind_some]
  obtain ⟨t, ht⟩ : ∃ t, t = oF l.Counts (jD l z p w) := ⟨_, rfl⟩
  have htl : t.length ≤ 1000 := by rw [ht]; exact Nat.le_trans (List.length_filter_le _ _) (Nat.le_trans nQ hlen)
  have main := mJ (fun k i s => gT t k i s) t (fun s r => s ++ [r.Id]) (fun s => some (s, (0 : Int))) [] ?_ ?_ BIG (dO (by omega))
  · rw [← ht]
    refine Eq.trans main ?_
    rw [tT, ht]; rfl
  · intro k i hi s hs
    have hlt : decide ((i : Int) < (t.length : Int)) = true := decide_eq_true (by omega)
    have hsl : s.length ≤ i := by rw [hs, tT]; simp; omega
    rw [gT, hlt, cond_true, dD hi, Option.bind_some, nL (by simp; omega), Option.bind_some, cU (by omega)]
  · intro k s
    have hlt : decide ((t.length : Int) < (t.length : Int)) = false := decide_eq_false (by omega)
    rw [gT, hlt, cond_false]; rfl
theorem aHf {l : aS} (hb : Bd l) {p w : Int} (h : jC l p w ≠ 0) : iC l p w = some ([], jC l p w) := by
  unfold iC
  rw [aDy hb, Option.bind_some, decide_eq_false h, Bool.not_false, cond_true]
theorem aFw {l : aS} {z : List aD} (h : GL l z) {p w : Int} (ha : oI l p w = true) : gQ l p w = some (aAc l z p w, 0) := by
  have hw := oT ha
  unfold gQ
  rw [aDy h.bd, Option.bind_some, aEw h hw.1 hw.2, decide_eq_true rfl, Bool.not_true, cond_false, h.gd.points hw.2.1 (by omega), Option.bind_some]
theorem aFx {l : aS} (hb : Bd l) {p w : Int} (h : jC l p w ≠ 0) : gQ l p w = some (0, jC l p w) := by
  unfold gQ
  rw [aDy hb, Option.bind_some, decide_eq_false h, Bool.not_false, cond_true]
/-- The first report along a row with an Id, not behind the week. -/
theorem aIs {l : aS} {z : List aD} (h : GL l z) {id w : Int} (hw : 0 ≤ w ∧ w ≤ 400) :
    (∀ r ∈ l.Reports, ¬ (r.Id = id ∧ r.Week ≤ w)) ∧ fF id w l BIG 0 = some (0, 3) ∨ ∃ r ∈ l.Reports, (r.Id = id ∧ r.Week ≤ w) ∧ fF id w l BIG 0 = some (qH l.Frozen r w, 0) := by
  have hf := nO h.led
  have main : ∀ (d i k : Nat), l.Reports.length - i = d → d < k → i ≤ l.Reports.length → (∀ (j : Nat) (hj : j < l.Reports.length), j < i → ¬ ((l.Reports[j]).Id = id ∧ (l.Reports[j]).Week ≤ w)) →
      (∀ r ∈ l.Reports, ¬ (r.Id = id ∧ r.Week ≤ w)) ∧ fF id w l k (i : Nat) = some (0, 3) ∨ ∃ r ∈ l.Reports, (r.Id = id ∧ r.Week ≤ w) ∧ fF id w l k (i : Nat) = some (qH l.Frozen r w, 0) := by
    intro d
    induction d with
    | zero =>
      intro i k hd hk hi hno
      obtain ⟨k, rfl⟩ : ∃ q, k = q + 1 := ⟨k - 1, by omega⟩
      have hlt : decide ((i : Int) < (l.Reports.length : Int)) = false := decide_eq_false (by omega)
      refine .inl ⟨fun r hr => ?_, by rw [fF, hlt, cond_false]; rfl⟩
      obtain ⟨j, hj, rfl⟩ := List.getElem_of_mem hr
      exact hno j hj (by omega)
    | succ d ih =>
      intro i k hd hk hi hno
      obtain ⟨k, rfl⟩ : ∃ q, k = q + 1 := ⟨k - 1, by omega⟩
      have hil : i < l.Reports.length := by omega
      have hlt : decide ((i : Int) < (l.Reports.length : Int)) = true := decide_eq_true (by omega)
      rw [fF, hlt, cond_true, dD hil, Option.bind_some, gL, Option.bind_some]
      by_cases hc : (l.Reports[i]).Id = id ∧ (l.Reports[i]).Week ≤ w
      · have hr := xI (hf.2.2.2.2.2.1 _ (List.getElem_mem hil))
        rw [decide_eq_true hc.1, decide_eq_true hc.2, Bool.true_and, cond_true, aId l _ w (by omega) hr.2.2.1.1 (by omega) (by omega) hw.1, Option.bind_some]
        exact .inr ⟨_, List.getElem_mem hil, hc, rfl⟩
      · have hcf : (decide ((l.Reports[i]).Id = id) && decide ((l.Reports[i]).Week ≤ w)) = false := by
          rw [Bool.eq_false_iff]; intro hn
          simp only [Bool.and_eq_true, decide_eq_true_eq] at hn
          exact hc hn
        rw [hcf, cond_false, cU (by omega)]
        refine ih (i + 1) k (by omega) (by omega) (by omega) fun j hj hji => ?_
        rcases Nat.eq_or_lt_of_le (Nat.le_of_lt_succ hji) with rfl | h5
        · exact hc
        · exact hno j hj h5
  exact main _ 0 BIG rfl (dO (by omega)) (Nat.zero_le _) fun j _ hj => by omega
theorem aFt {l : aS} (h : Near l) (id w : Int) : ∃ r : Int × Int, nB l id w = some r ∧ kL l id w = some r := by
  obtain ⟨b1, b2, b3⟩ := h.bd
  by_cases ha : jC l 0 w = 0
  · obtain ⟨z, hz, hag, hP⟩ := h.gl ha
    have hw := (oT hag).2
    have hd : kL l id w = fF id w l BIG 0 := by
      unfold kL
      rw [uZ l (by omega) (by omega) (by omega), Option.bind_some, yO hz, decide_eq_true rfl, Bool.not_true, cond_false, qU, Option.bind_some, decide_eq_true hw.1, decide_eq_true hw.2]; rfl
    rw [hd]
    rcases aIs hz (id := id) hw with ⟨h1, h2⟩ | ⟨r, h1, h2, h3⟩
    · refine ⟨_, ?_, h2⟩
      by_cases he : ∃ r ∈ z, r.Id = id
      · obtain ⟨r, hr, hid⟩ := he
        have := h1 r ((hz.mem r).1 hr)
        rw [xE hz hag hr hid, decide_eq_true (by omega)]; rfl
      · exact aCd hz hag fun r hr hid => he ⟨r, hr, hid⟩
    · refine ⟨_, ?_, h3⟩
      rw [xE hz hag ((hz.mem r).2 h1) h2.1, decide_eq_false (by omega)]; rfl
  · refine ⟨_, aGg h.bd ha, ?_⟩
    unfold kL
    rw [uZ l (by omega) (by omega) (by omega), Option.bind_some]
    by_cases hc : hJ l = 0
    · obtain ⟨z, hz⟩ := aBe hc
      have hP := hz.players
      have e1 : oI l 0 w = false := by
        rw [Bool.eq_false_iff]; intro hn
        apply ha; unfold jC; rw [hc, hn]; rfl
      have e2 : jC l 0 w = 1 := by unfold jC; rw [hc, e1]; rfl
      have e3 : (decide (0 ≤ w) && decide (w ≤ 400)) = false := by
        unfold oI inB at e1
        rw [decide_eq_true (show (0 : Int) ≤ 0 by omega), decide_eq_true (show (0 : Int) ≤ l.Players - 1 by omega)] at e1
        simpa using e1
      rw [hc, e2, qU, Option.bind_some, e3]; rfl
    · have e2 : jC l 0 w = hJ l := by unfold jC; rw [decide_eq_false hc]; rfl
      rw [decide_eq_false hc, e2]; rfl
theorem aEt {l : aS} (h : Near l) (p w : Int) : ∃ r : List Int × Int, mL l p w = some r ∧ iC l p w = some r ∧ r.1.length ≤ 1000 := by
  by_cases ha : jC l p w = 0
  · obtain ⟨z, hz, hag, hP⟩ := h.gl ha
    have hzl := hz.len
    have hcl : (jD l z p w).length ≤ z.length := nQ
    exact ⟨_, aEj hz hag, aHe hz hag, by unfold aEc; rw [List.length_map]; exact Nat.le_trans (List.length_filter_le _ _) (by omega)⟩
  · exact ⟨_, aEk h.bd ha, aHf h.bd ha, by simp⟩
theorem aCu {l : aS} (h : Near l) (p w : Int) : ∃ r : Int × Int, lN l p w = some r ∧ gQ l p w = some r := by
  by_cases ha : jC l p w = 0
  · obtain ⟨z, hz, hag, hP⟩ := h.gl ha
    exact ⟨_, aCv hz hag, aFw hz hag⟩
  · exact ⟨_, aCw h.bd ha, aFx h.bd ha⟩
theorem yL {T : Type} (F : Nat → Int → T) (n : Nat) (K : T) (h1 : ∀ k i, i < n → F (k + 1) (i : Int) = F k ((i + 1 : Nat) : Int)) (h2 : ∀ k, F (k + 1) (n : Int) = K) (hn : n ≤ 1000000) : F BIG 0 = K := by
  have := kO F n (fun _ => true) K K (fun k i hi => h1 k i hi) h2 BIG (dO (by omega))
  rw [this, show (List.range n).all (fun _ => true) = true from List.all_eq_true.2 fun _ _ => rfl]; rfl
theorem aFm {l : aS} (hb : Bd l) : mE l l = some true := by
  obtain ⟨h1, h2, h3⟩ := hb
  unfold mE
  have d0 : ∀ n : Int, decide (n = n) = true := fun n => decide_eq_true rfl
  rw [d0, d0, d0, d0, d0, Bool.not_true, cond_false, Option.bind_some, cond_false, Option.bind_some, cond_false, Option.bind_some, cond_false, Option.bind_some, cond_false]
  refine Eq.trans (yL (fun k i => hT l l k i) l.Reports.length (mF l l) (fun k i hi => ?_) (fun k => ?_) (by omega)) ?_
  · have hlt : decide ((i : Int) < (l.Reports.length : Int)) = true := decide_eq_true (by omega)
    simp only [hT, hlt, cond_true, dD hi, Option.bind_some, decide_true, Bool.not_true, cond_false, cU (show i < 9223372036854775807 by omega)]
  · have hlt : decide ((l.Reports.length : Int) < (l.Reports.length : Int)) = false := decide_eq_false (by omega)
    simp only [hT, hlt, cond_false]
  unfold mF
  refine Eq.trans (yL (fun k i => hY l l k i) l.Bans.length (mG l l) (fun k i hi => ?_) (fun k => ?_) (by omega)) ?_
  · have hlt : decide ((i : Int) < (l.Bans.length : Int)) = true := decide_eq_true (by omega)
    simp only [hY, hlt, cond_true, dD hi, Option.bind_some, decide_true, Bool.not_true, cond_false, cU (show i < 9223372036854775807 by omega)]
  · have hlt : decide ((l.Bans.length : Int) < (l.Bans.length : Int)) = false := decide_eq_false (by omega)
    simp only [hY, hlt, cond_false]
  unfold mG
  refine Eq.trans (yL (fun k i => hZ l l k i) l.Frozen.length oV (fun k i hi => ?_) (fun k => ?_) (by omega)) rfl
  · have hlt : decide ((i : Int) < (l.Frozen.length : Int)) = true := decide_eq_true (by omega)
    simp only [hZ, hlt, cond_true, dD hi, Option.bind_some, decide_true, Bool.not_true, cond_false, cU (show i < 9223372036854775807 by omega)]
  · have hlt : decide ((l.Frozen.length : Int) < (l.Frozen.length : Int)) = false := decide_eq_false (by omega)
    simp only [hZ, hlt, cond_false]
theorem sU (l : aS) (x : nZ) (ok0 : yG l) (ok1 : uL x) : kX l x = some true := by
  have works : (kK).bind (fun r14 => some r14) = some true := by rw [aDi, Option.bind_some]
  unfold kX
  rcases aHp (l := l) ⟨ok0.2.2.1.1, ok0.2.2.2.1.1, ok0.2.2.2.2.1⟩ with h | ⟨h, hn, _⟩
  · rw [h, Option.bind_some, cond_true, Option.bind_some, cond_true, works]
  · rw [h, Option.bind_some, cond_false, aHm, Option.bind_some, Option.bind_some]
    cases hl : (decide (250 < x.Week) && decide (x.Week ≤ 400)) with
    | true => rw [cond_true, works]
    | false =>
      obtain ⟨r1, a1, b1⟩ := aFt hn x.Id x.Week
      obtain ⟨r2, a2, b2, c2⟩ := aEt hn x.Player x.Week
      obtain ⟨r3, a3, b3⟩ := aCu hn x.Player x.Week
      have d0 : ∀ n : Int, decide (n = n) = true := fun n => decide_eq_true rfl
      obtain ⟨e1, e2, e3⟩ := hn.bd
      rw [cond_false, aHa hn.bd, Option.bind_some, aCc l (by omega) (by omega) (by omega), Option.bind_some, uZ l (by omega) (by omega) (by omega), Option.bind_some, d0, Bool.not_true, cond_false]
      rw [a1, Option.bind_some, b1, Option.bind_some, a2, Option.bind_some, b2, Option.bind_some, a3, Option.bind_some, b3, Option.bind_some, d0, d0, d0, d0, d0, cond_true, Option.bind_some, cond_true, aDf _ _ (by omega), decide_eq_true rfl, Option.bind_some, Option.bind_some, cond_true, Option.bind_some, cond_true, Option.bind_some, cond_true, Option.bind_some, cond_true, aFm hn.bd, Option.bind_some, Option.bind_some, cond_true, works, Option.bind_some]
end Go.Am
