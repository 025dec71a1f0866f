/- The plain law RankDefends. -/
import Derived.Test.YtaocljlhapoieaaRkPlain16
import Derived.Test.YtaocljlhapoieaaRkWorks
namespace Go.Am

/-- What a statement looks at. -/
structure Look (l : aS) (z : List aB) (p w : Int) : Prop where
  gl : GL l z
  pl : l.Players ≤ 5
  rl : l.Reports.length ≤ 10
  wk : ∀ r ∈ l.Reports, r.Week ≤ 150
  p0 : 0 ≤ p ∧ p < l.Players
  w0 : 0 ≤ w ∧ w ≤ 250
theorem aDu (l : aS) (p w : Int) (hb : l.Reports.length ≤ maxLen ∧ l.Bans.length ≤ maxLen ∧ l.Frozen.length ≤ maxLen) : jU l p w = some false ∨ jU l p w = some true ∧ ∃ z, Look l z p w := by
  unfold maxLen at hb
  obtain ⟨b, hf⟩ : ∃ b, iB l = some b := by
    by_cases h : l.Reports.length ≤ 140737488355328 ∧ l.Bans.length ≤ 140737488355328 ∧ l.Frozen.length ≤ 140737488355328
    · exact aEv l h
    · unfold iB
      rw [fI, Option.bind_some, fI, Option.bind_some]
      have : (decide (60 < (l.Reports.length : Int)) || decide (20 < (l.Bans.length : Int)) || decide (20 < (l.Frozen.length : Int))) = true := by simp only [Bool.or_eq_true, decide_eq_true_eq]; omega
      rw [this]; exact ⟨true, rfl⟩
  unfold jU
  rw [hf, Option.bind_some]
  cases b with
  | true => left; simp
  | false =>
    obtain ⟨h1, h2⟩ := aEa hf
    rw [aAz l (by omega) (by omega) (by omega), Option.bind_some]
    simp only [Bool.not_false, cond_true, Option.bind_some, fN]
    cases hv : (decide (oB l = 0) && decide (0 ≤ p) && decide (p < l.Players) && decide (0 ≤ w) && decide (w ≤ 250)) with
    | false => left; rfl
    | true =>
      right
      refine ⟨rfl, ?_⟩
      simp only [Bool.and_eq_true, decide_eq_true_eq] at hv
      obtain ⟨z, hz⟩ := aHo hv.1.1.1.1
      obtain ⟨h3, h4, h5⟩ := h2 hv.1.1.1.1
      exact ⟨z, hz, h3, h4, h5, ⟨by omega, by omega⟩, by omega, by omega⟩
theorem Look.arg {l : aS} {z : List aB} {p w : Int} (h : Look l z p w) : uW l p w = true := by
  have := h.p0; have := h.w0
  unfold uW inB
  simp; omega
theorem aEr (fz : List bB) (r : aB) {w v : Int} (h : w ≤ v) : qB fz r w ≤ qB fz r v := by
  unfold qB
  have : (List.range (w - r.Week).toNat).Sublist (List.range (v - r.Week).toNat) := List.range_sublist.2 (by omega)
  have := (this.filter fun j => !jB fz r.Player (r.Week + 1 + (j : Nat))).length_le
  omega
theorem aBa {l : aS} {z : List aB} {p w : Int} (h : Look l z p w) : ((∀ r ∈ l.Reports, r.Must = false) → 0 ≤ uC l z p w) ∧ ((∀ r ∈ l.Reports, ¬ (r.Player = p ∧ r.Week = w + 1)) → uC l z p w = kM l z p w - kM l z p (w + 1)) ∧ uC l z p w ≤ kM l z p w := by
  have hlen : z.length ≤ 1000 := Nat.le_trans h.gl.len (by omega)
  have hz' : ∀ x ∈ z.filter fun r => decide (r.Week ≤ w), qN l.Players x = true := fun x hx => h.gl.reps x (gR hx)
  have hl' : (z.filter fun r => decide (r.Week ≤ w)).length ≤ 1000 := Nat.le_trans (List.length_filter_le _ _) hlen
  have hC := (mT h.gl.led).2.1
  unfold uC
  refine ⟨fun hm => ?_, fun hc => ?_, ?_⟩
  · have := aCc (all := dS l (z.filter fun r => decide (r.Week ≤ w)) p (w + 1)) (more := dS l z p w) (C := l.Counts) (sY (l := l) (p := p) (w := w + 1) (h.gl.st.sublist List.filter_sublist)) (sY (l := l) (p := p) (w := w) h.gl.st) (mV h.gl.reps) (Nat.le_trans lE hlen) (by omega) (fun x hx => by
        unfold dS at hx ⊢
        rw [List.mem_filter, List.mem_filter] at hx
        rw [List.mem_filter]
        refine ⟨hx.1.1, ?_⟩
        have h1 := hx.2
        have h2 := hx.1.2
        unfold wG at h1 ⊢
        simp only [Bool.and_eq_true, decide_eq_true_eq] at h1 h2 ⊢
        have := aEr l.Frozen x (show w ≤ w + 1 by omega)
        exact ⟨⟨⟨h1.1.1.1, h2⟩, by omega⟩, h1.2⟩) (fun x hx hxm => by
        have := hm x ((h.gl.mem x).1 (gR hx))
        rw [hxm] at this; cases this)
    unfold kM
    omega
  · have : dS l (z.filter fun r => decide (r.Week ≤ w)) p (w + 1) = dS l z p (w + 1) := by
      unfold dS
      rw [List.filter_filter]
      refine List.filter_congr fun r hr => ?_
      cases hcb : wG l p (w + 1) r with
      | false => rw [Bool.false_and]
      | true =>
        rw [Bool.true_and, decide_eq_true_eq]
        have h1 := hcb
        unfold wG at h1
        simp only [Bool.and_eq_true, decide_eq_true_eq] at h1
        have := hc r ((h.gl.mem r).1 hr)
        omega
    unfold kM
    rw [this]
  · have := (rW (l := l) hz' hl' p (w + 1)).1
    omega
theorem rR (l : aS) (x : lW) (ok0 : xS l) (ok1 : tV x) : kB l x = some true := by
  unfold kB
  rcases aDu l x.Player x.Week ⟨ok0.2.2.1.1, ok0.2.2.2.1.1, ok0.2.2.2.2.1⟩ with h | ⟨h, z, hk⟩
  · rw [h, Option.bind_some]
    simp only [Bool.not_false, cond_true, Option.bind_some, uL]
  · rw [h, Option.bind_some]
    simp only [Bool.not_true, cond_false, Option.bind_some]
    by_cases h250 : x.Week = 250
    · rw [decide_eq_true h250, cond_true, uL]; rfl
    have hp := hk.p0
    have hw := hk.w0
    have e1 : w64 (x.Week + 1) = x.Week + 1 := cR (by omega) (by omega)
    have ha2 : uW l x.Player (x.Week + 1) = true := by unfold uW inB; simp; omega
    rw [decide_eq_false h250, cond_false, aBm hk.gl hk.arg, Option.bind_some, xU hk.gl hk.arg, Option.bind_some, e1, xU hk.gl ha2, Option.bind_some]
    rw [decide_eq_false (show ¬ 400 ≤ x.Week by omega)]
    simp only [cond_false, decide_true, Bool.not_true, Option.bind_some]
    obtain ⟨c1, c2, c3⟩ := aBa hk
    have hlen : z.length ≤ 1000 := Nat.le_trans hk.gl.len (by omega)
    have r1 := rW (l := l) hk.gl.reps hlen x.Player x.Week
    have r2 := rW (l := l) hk.gl.reps hlen x.Player (x.Week + 1)
    have hrl := hk.rl
    have hf : ∀ (rs : List aB) (s : Bool × Bool), rs.foldl (fun s r => (s.1 || r.Must, s.2 || (decide (r.Player = x.Player) && decide (r.Week = x.Week + 1)))) s = (s.1 || rs.any fun r => r.Must, s.2 || rs.any fun r => decide (r.Player = x.Player) && decide (r.Week = x.Week + 1)) := by
      intro rs
      induction rs with
      | nil => intro s; simp
      | cons r rs ih => intro s; rw [List.foldl_cons, ih]; simp [Bool.or_assoc]
    have main := kJ (S := Bool × Bool) (fun k i s => eY (uC l z x.Player x.Week) (kM l z x.Player x.Week) (kM l z x.Player (x.Week + 1)) l x k s.1 s.2 i) l.Reports (fun s r => (s.1 || r.Must, s.2 || (decide (r.Player = x.Player) && decide (r.Week = x.Week + 1))))
      (fun s => iY (uC l z x.Player x.Week) (kM l z x.Player x.Week) (kM l z x.Player (x.Week + 1)) s.1 s.2) (false, false) ?_ ?_ BIG (dB (by omega))
    · refine Eq.trans main ?_
      rw [hf]
      unfold iY
      rw [uL, cR (by omega) (by omega)]
      simp only [Bool.false_or, fI, fN, Option.bind_some, decide_eq_true c3, Bool.and_true]
      have hm : (l.Reports.any (fun r => r.Must) || decide (0 ≤ uC l z x.Player x.Week)) = true := by
        cases ha : l.Reports.any fun r => r.Must with
        | true => rfl
        | false => rw [Bool.false_or, decide_eq_true_eq]; exact c1 fun r hr => by simpa using List.any_eq_false.1 ha r hr
      have hc : (l.Reports.any (fun r => decide (r.Player = x.Player) && decide (r.Week = x.Week + 1)) || decide (uC l z x.Player x.Week = kM l z x.Player x.Week - kM l z x.Player (x.Week + 1))) = true := by
        cases ha : l.Reports.any fun r => decide (r.Player = x.Player) && decide (r.Week = x.Week + 1) with
        | true => rfl
        | false => rw [Bool.false_or, decide_eq_true_eq]; exact c2 fun r hr => by simpa using List.any_eq_false.1 ha r hr
      rw [hm, hc]; rfl
    · intro k i hi s hs
      have hlt : decide ((i : Int) < (l.Reports.length : Int)) = true := decide_eq_true (by omega)
      simp only [eY, hlt, cond_true, dK hi, Option.bind_some, fI, fN, e1, cE (show i < 9223372036854775807 by omega)]
    · intro k s
      have hlt : decide ((l.Reports.length : Int) < (l.Reports.length : Int)) = false := decide_eq_false (by omega)
      simp only [eY, hlt, cond_false]
end Go.Am
