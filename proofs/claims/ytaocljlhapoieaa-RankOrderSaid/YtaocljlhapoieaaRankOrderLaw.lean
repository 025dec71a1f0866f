/- The plain law RankOrder. -/
import Derived.Test.YtaocljlhapoieaaRankMergesLaw
import Derived.Test.YtaocljlhapoieaaRankDefendsLaw
namespace Go.Am

/-- What is said of the reports that came late. -/
def aGz (l : aH) (x : iC) (turn : gD) (rs : List aB) : Option Bool :=
    (kS l x.Week).bind fun r22 =>
    (kS (gU l rs) x.Week).bind fun r23 =>
    (jE l x.Player x.Week).bind fun r24 =>
    (jE (gU l rs) x.Player x.Week).bind fun r25 =>
    (bif !decide (r22.2 = 0) then (some true) else (some (!decide (r23.2 = 0)))).bind fun b26 =>
    (bif b26 then (some true) else (some (!decide (r24.2 = 0)))).bind fun b27 =>
    (bif b27 then (some true) else (some (!decide (r25.2 = 0)))).bind fun b28 =>
    (bif b28 then (some true) else ((fL r22.1 r23.1).bind fun r29 =>
    some (!r29))).bind fun b30 =>
    (bif b30 then (some true) else (some (!decide (r24.1 = r25.1)))).bind fun b31 =>
    bif b31 then (some false)
    else ((iG l ([] : List aB)).bind fun r32 =>
    (iQ (gU l rs)).bind fun r34 =>
    (sub rs 0 turn.Cut).bind fun x36 =>
    (sub rs turn.Cut (rs.length : Int)).bind fun x37 =>
    (iG (aH.mk r34.Players r34.Counts x36 r34.Bans r34.Frozen) x37).bind fun r38 =>
    (bif decide (r32.2 = 0) then (some (decide (r38.2 = 0))) else (some false)).bind fun b40 =>
    (bif b40 then ((jF r32.1 r38.1).bind fun r41 =>
    some r41) else (some false)).bind fun b42 =>
    (bif b42 then ((fX).bind fun r43 =>
    some r43) else (some false)).bind fun b44 =>
    some b44)
theorem aAv {l : aH} {z : List aB} {x : iC} (hk : Look l z x.Player x.Week) (turn : gD) {rs : List aB} (hs : ∀ r, r ∈ rs ↔ r ∈ l.Reports) (hl : rs.length ≤ 20) (hc : 0 ≤ turn.Cut ∧ turn.Cut ≤ rs.length) : aGz l x turn rs = some true := by
  have works : (fX).bind (fun r14 => some r14) = some true := by rw [zP, Option.bind_some]
  have hgo : GL (gU l rs) z := aJe hk.gl hs (by omega)
  have hw := hk.w0
  have hP := hk.pl
  have hPo : (gU l rs).Players ≤ 12 := by show l.Players ≤ 12; omega
  have hao : tD (gU l rs) x.Player x.Week = true := hk.arg
  have e1 : oQ (gU l rs) z x.Week = oQ l z x.Week := rfl
  have e2 : uO (gU l rs) z x.Player x.Week = uO l z x.Player x.Week := rfl
  have hL := ((hk.gl.list hw.1 (show x.Week ≤ 1000 by omega) (by omega)).2.1).len (by omega)
  have d0 : ∀ n : Int, decide (n = n) = true := fun n => decide_eq_true rfl
  obtain ⟨c, hce⟩ : ∃ c : Nat, turn.Cut = c := ⟨turn.Cut.toNat, by omega⟩
  have hrl := hk.rl
  have m1 : iG l [] = some (gU l z, 0) := by
    rw [aHc hk.gl.bd [] (by simp)]
    exact congrArg some (aDq (a := l.Reports) (b := []) hk.gl (fun _ h => h) (by simp) (fun _ h => .inl h) (by omega) (by simp))
  have hbo : Bd (gU l rs) := hgo.bd
  have m2 : iG (gU l (rs.take c)) (rs.drop c) = some (gU l z, 0) := by
    have hb2 : Bd (gU l (rs.take c)) := ⟨by show (rs.take c).length ≤ _; simp; omega, hbo.2.1, hbo.2.2⟩
    rw [aHc hb2 _ (by simp; omega)]
    refine congrArg some (aDq hk.gl (fun r hr => (hs r).1 (List.mem_of_mem_take hr)) (fun r hr => (hs r).1 (List.mem_of_mem_drop hr)) (fun r hr => ?_) (by simp; omega) (by simp; omega))
    have := (hs r).2 hr
    rw [← List.take_append_drop c rs] at this
    exact List.mem_append.1 this
  have hbz : Bd (gU l z) := ⟨by show z.length ≤ 1000; have := hk.gl.len; omega, hbo.2.1, hbo.2.2⟩
  unfold aGz
  rw [aCk hk.gl (by omega) (by omega), Option.bind_some, aCk hgo hPo (by omega), Option.bind_some, zM hk.gl hk.arg, Option.bind_some, zM hgo hao, Option.bind_some, e1, e2, d0, Bool.not_true, cond_false, Option.bind_some, cond_false, Option.bind_some, cond_false, Option.bind_some, cond_false, aEy _ _ (show (oQ l z x.Week).length ≤ 1000000 by omega), decide_eq_true rfl, Option.bind_some, Bool.not_true, Option.bind_some, cond_false, d0, Bool.not_true, Option.bind_some, cond_false]
  rw [m1, Option.bind_some, aFe hbo, Option.bind_some, hce, uA (by omega), Option.bind_some, xF (by omega), Option.bind_some]
  show (iG (gU l (rs.take c)) (rs.drop c)).bind _ = _
  rw [m2, Option.bind_some, d0, cond_true, Option.bind_some, cond_true, aHj hbz, Option.bind_some, Option.bind_some, cond_true, works, Option.bind_some]
/-- Rows that are turned. -/
theorem aIf {n m B : Nat} (hm : m < n) : ((m + (n - B % n)) % n + B) % n = m := by
  have h1 : B % n < n := Nat.mod_lt _ (by omega)
  have h2 : n * (B / n) + B % n = B := Nat.div_add_mod B n
  rw [Nat.mod_add_mod]
  have h3 : m + (n - B % n) + B = m + n * (B / n + 1) := by rw [Nat.mul_add, Nat.mul_one]; omega
  rw [h3, Nat.add_mul_mod_self_left, Nat.mod_eq_of_lt hm]
def aBr (l : List aB) (B : Nat) : List aB := (List.range l.length).map fun i => l.getD ((i + B) % l.length) default
theorem aJo (l : List aB) (B : Nat) (r : aB) : r ∈ aBr l B ↔ r ∈ l := by
  unfold aBr
  rw [List.mem_map]
  constructor
  · rintro ⟨i, hi, rfl⟩
    have hi' := List.mem_range.1 hi
    have hlt : (i + B) % l.length < l.length := Nat.mod_lt _ (by omega)
    simp only [List.getD, List.getElem?_eq_getElem hlt, Option.getD_some]
    exact List.getElem_mem _
  · intro hr
    obtain ⟨m, hm, rfl⟩ := List.getElem_of_mem hr
    refine ⟨(m + (l.length - B % l.length)) % l.length, List.mem_range.2 (Nat.mod_lt _ (by omega)), ?_⟩
    rw [aIf hm]
    simp [List.getD, List.getElem?_eq_getElem hm]
theorem aHv {l : aH} {z : List aB} {x : iC} (hk : Look l z x.Player x.Week) (turn : gD) {rs : List aB} (hs : ∀ r, r ∈ rs ↔ r ∈ l.Reports) (hl : rs.length ≤ 10) (hc : 0 ≤ turn.Cut ∧ turn.Cut ≤ rs.length) : iI l x turn rs l.Players l.Counts l.Bans l.Frozen = some true := by
  unfold iI
  by_cases h0 : 0 < rs.length
  · have hdiv : (rs.length : Int).tdiv 2 = ((rs.length / 2 : Nat) : Int) := by
      rw [Int.tdiv_eq_ediv_of_nonneg (by omega)]; omega
    have i0 : idx rs 0 = some rs[0] := cE (i := 0) h0
    have hh : rs.length / 2 < rs.length := by omega
    rw [decide_eq_true (show (0 : Int) < (rs.length : Int) by omega), cond_true, i0, Option.bind_some, hdiv, bY (by omega) (by omega), cE hh, Option.bind_some, fY (by simp; omega), Option.bind_some]
    refine aAv hk turn (rs := rs ++ [rs[0], rs[rs.length / 2]]) (fun r => ?_) (by simp; omega) (by simp; omega)
    rw [List.mem_append, ← hs]
    refine ⟨fun h => h.elim id fun h => ?_, .inl⟩
    simp only [List.mem_cons, List.not_mem_nil, or_false] at h
    rcases h with rfl | rfl
    · exact List.getElem_mem _
    · exact List.getElem_mem _
  · rw [decide_eq_false (show ¬ (0 : Int) < (rs.length : Int) by omega), cond_false]
    exact aAv hk turn hs (by omega) hc
theorem tO (l : aH) (x : iC) (turn : gD) (ok0 : zK l) (ok1 : vH x) (ok2 : uN turn) : lI l x turn = some true := by
  have works : (fX).bind (fun r14 => some r14) = some true := by rw [zP, Option.bind_some]
  unfold lI
  rcases aGh l x.Player x.Week ⟨ok0.2.2.1.1, ok0.2.2.2.1.1, ok0.2.2.2.2.1⟩ with h | ⟨h, z, hk⟩
  · rw [h, Option.bind_some, Bool.not_false, cond_true, Option.bind_some, cond_true, Option.bind_some, cond_true, Option.bind_some, cond_true, Option.bind_some, cond_true, Option.bind_some, cond_true, works]
  · rw [h, Option.bind_some, Bool.not_true, cond_false, Option.bind_some, eL, Option.bind_some, eL, Option.bind_some, eL, Option.bind_some, eL, Option.bind_some]
    cases hb : (decide (8 < (l.Reports.length : Int)) || decide (turn.By < 0) || decide (100 < turn.By) || decide (turn.Cut < 0) || decide ((l.Reports.length : Int) < turn.Cut)) with
    | true => rw [cond_true, works]
    | false =>
      simp only [Bool.or_eq_false_iff, decide_eq_false_iff_not] at hb
      obtain ⟨B, hB⟩ : ∃ B : Nat, turn.By = B := ⟨turn.By.toNat, by omega⟩
      rw [cond_false, aFe hk.gl.bd, Option.bind_some]
      obtain ⟨n, hn⟩ : ∃ n, n = l.Reports.length := ⟨_, rfl⟩
      have main := jR (fun k i s => eW l x turn k i s l.Players l.Counts l.Bans l.Frozen) (List.range n) (fun s j => s ++ [l.Reports.getD ((j + B) % n) default]) (fun s => iI l x turn s l.Players l.Counts l.Bans l.Frozen) [] ?_ ?_ BIG (cG (by simp; omega))
      · refine Eq.trans main ?_
        rw [aAb, List.nil_append]
        have hr : (List.range n).map (fun j => l.Reports.getD ((j + B) % n) default) = aBr l.Reports B := by unfold aBr; rw [hn]
        have hrl : (aBr l.Reports B).length = n := by unfold aBr; simp [hn]
        rw [hr]
        exact aHv hk turn (aJo l.Reports B) (by omega) (by omega)
      · intro k i hi s hs
        have hi' : i < n := by simpa using hi
        have hlt : decide ((i : Int) < (l.Reports.length : Int)) = true := decide_eq_true (by omega)
        have hsl : s.length ≤ i := by rw [hs, aAb]; simp; omega
        have eg : (List.range n)[i] = i := by simp
        have hlm : (i + B) % n < l.Reports.length := by rw [← hn]; exact Nat.mod_lt _ (by omega)
        have hmod : (w64 ((i : Int) + turn.By)).tmod (l.Reports.length : Int) = (((i + B) % n : Nat) : Int) := by
          rw [hB, bY (by omega) (by omega), ← hn, Int.tmod_eq_emod_of_nonneg (by omega), Int.natCast_emod, Int.natCast_add]
        have eget : l.Reports.getD ((i + B) % n) default = l.Reports[(i + B) % n] := by simp [List.getD, List.getElem?_eq_getElem hlm]
        have hchk : chk (!decide ((l.Reports.length : Int) = 0)) = some () := by rw [decide_eq_false (by omega)]; rfl
        rw [eW, hlt, cond_true, hchk, Option.bind_some, hmod, cE hlm, Option.bind_some, fY (by simp; omega), Option.bind_some, bI (by omega), eg, eget]
      · intro k s
        have hlt : decide (((List.range n).length : Int) < (l.Reports.length : Int)) = false := decide_eq_false (by simp; omega)
        rw [eW, hlt, cond_false]
end Go.Am
