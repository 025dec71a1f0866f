/- The plain law RankBounds. -/
import Derived.Test.YtaocljlhapoieaaRankReachLaw
import Derived.Test.YtaocljlhapoieaaRankDefendsLaw
namespace Go.Am

theorem aCi : ∀ (qs ps free : List Int), ps.length = qs.length → ps.Nodup → (∀ p ∈ ps, p ∈ free) → ps.zip qs ∈ lP qs free
  | [], ps, free, hl, _, _ => by
    rw [List.length_nil] at hl
    rw [List.length_eq_zero_iff.1 hl, lP]; simp
  | q :: qs, [], free, hl, _, _ => by simp at hl
  | q :: qs, p :: ps, free, hl, hn, hf => by
    rw [List.nodup_cons] at hn
    have hp := hf p List.mem_cons_self
    have hne : free.isEmpty = false := by cases free with
      | nil => simp at hp
      | cons _ _ => rfl
    rw [lP, hne, cond_false, List.zip_cons_cons]
    refine List.mem_flatMap.2 ⟨p, hp, List.mem_map.2 ⟨_, aCi qs ps _ (by simpa using hl) hn.2 fun x hx => List.mem_filter.2 ⟨hf x (List.mem_cons_of_mem _ hx), ?_⟩, rfl⟩⟩
    have : x ≠ p := fun e => hn.1 (e ▸ hx)
    simp [this]
theorem aAl {w : Int} : ∀ (c : List (Int × Int)) (rs : List aB) (x : Int × Int), gC w rs (c ++ [x]) = gC w rs c ++ [sI w (pE (gC w rs c)) x]
  | [], rs, x => rfl
  | a :: c, rs, x => aAl c _ x
theorem aDp : ∀ (L : List Int) (b : Int), L.foldl min b ≤ b ∧ ∀ n ∈ L, L.foldl min b ≤ n
  | [], b => ⟨Int.le_refl _, by simp⟩
  | m :: L, b => by
    rw [List.foldl_cons]
    obtain ⟨h1, h2⟩ := aDp L (min b m)
    refine ⟨by omega, fun n hn => ?_⟩
    rcases List.mem_cons.1 hn with rfl | hn
    · omega
    · exact h2 n hn
theorem aDl : ∀ (L : List Int) (b : Int), b ≤ L.foldl max b ∧ ∀ n ∈ L, n ≤ L.foldl max b
  | [], b => ⟨Int.le_refl _, by simp⟩
  | m :: L, b => by
    rw [List.foldl_cons]
    obtain ⟨h1, h2⟩ := aDl L (max b m)
    refine ⟨by omega, fun n hn => ?_⟩
    rcases List.mem_cons.1 hn with rfl | hn
    · omega
    · exact h2 n hn
theorem aGz {a : Int} : ∀ (L : List Int) (b : Int), a ≤ b → (∀ n ∈ L, a ≤ n) → a ≤ L.foldl min b
  | [], _, h, _ => h
  | m :: L, b, h, hL => aGz L _ (by have := hL m List.mem_cons_self; omega) fun n hn => hL n (List.mem_cons_of_mem _ hn)
theorem aFg {a : Int} : ∀ (L : List Int) (b : Int), b ≤ a → (∀ n ∈ L, n ≤ a) → L.foldl max b ≤ a
  | [], _, h, _ => h
  | m :: L, b, h, hL => aFg L _ (by have := hL m List.mem_cons_self; omega) fun n hn => hL n (List.mem_cons_of_mem _ hn)
section bounds
variable {l : aM} {z : List aB} {x : kH} (hk : Look l z x.Player x.Week) (c : jI) (hp : prB c.Prizes = true) (hcl : c.To.length = c.Prizes.length)
include hk hp hcl
theorem aGo {best worst : Int} (hbw : ∀ n ∈ kP l z x.Player x.Week c.Prizes, n ≠ 0 ∧ best ≤ n ∧ n ≤ worst) (hfree : ∀ p ∈ c.To, p ∈ qQ l x.Week) (hn : c.To.Nodup) :
    jQ best worst x (sW l (gC x.Week l.Reports (c.To.zip c.Prizes))) = some true := by
  have works : (fI).bind (fun r14 => some r14) = some true := by rw [wC, Option.bind_some]
  have hw := hk.w0
  have hP := hk.pl
  obtain ⟨C, hC⟩ : ∃ C, C = c.To.zip c.Prizes := ⟨_, rfl⟩
  obtain ⟨p1, p2⟩ := wV hp
  have hmem : C ∈ lP c.Prizes (qQ l x.Week) := by rw [hC]; exact aCi _ _ _ hcl hn hfree
  obtain ⟨o1, o2⟩ := aDr hp hmem
  have hw4 : 0 ≤ x.Week ∧ x.Week ≤ 400 := by omega
  obtain ⟨g1, g2, g3⟩ := zL hk.gl (by omega) hw4 o1 o2
  have hf := jG hk.gl.led
  have hzl := hk.gl.len
  have hDl : (gC x.Week l.Reports C).length ≤ 1000 := by rw [vD]; omega
  rw [← hC]
  unfold jQ
  rw [aAn (sW l (gC x.Week l.Reports C)) (by show (gC x.Week l.Reports C).length ≤ _; omega) (by show l.Bans.length ≤ _; omega) (by show l.Frozen.length ≤ _; omega), Option.bind_some]
  by_cases hc : lE (sW l (gC x.Week l.Reports C)) = 0
  · rw [decide_eq_true hc, Bool.not_true, cond_false]
    obtain ⟨zo, hzo⟩ := aFw hc
    have hze : zo = gC x.Week z C := qV (key := fun r : aB => r.Id) hzo.st g1.st fun r => (hzo.mem r).trans (vE C l.Reports z (fun y => (hk.gl.mem y).symm) r)
    subst hze
    have hao : tK (sW l (gC x.Week l.Reports C)) x.Player x.Week = true := hk.arg
    have hlist : jT (sW l (gC x.Week l.Reports C)) (gC x.Week z C) x.Week = jT l (jN x.Week z C) x.Week := g2
    obtain ⟨q1, q2, q3⟩ := hbw (nV l (jN x.Week z C) x.Player x.Week) (List.mem_map.2 ⟨C, hmem, rfl⟩)
    have hpv : tA (mM (jT l (jN x.Week z C) x.Week) x.Player) = (nV l (jN x.Week z C) x.Player x.Week, 0) := by
      unfold tA nV at *
      rw [decide_eq_false q1]; rfl
    rw [aAy hzo (by show l.Players ≤ 12; omega) hao, Option.bind_some, hlist, hpv, decide_eq_true rfl, cond_true, Option.bind_some, decide_eq_true q2, cond_true, decide_eq_true q3, Option.bind_some, cond_true, works, Option.bind_some]
  · rw [decide_eq_false hc, Bool.not_false, cond_true, works]
theorem aGp {best worst : Int} (hbw : ∀ n ∈ kP l z x.Player x.Week c.Prizes, n ≠ 0 ∧ best ≤ n ∧ n ≤ worst) : dT best worst l x c BIG 0 l (List.replicate l.Players.toNat false) = some true := by
  have works : (fI).bind (fun r14 => some r14) = some true := by rw [wC, Option.bind_some]
  have hw := hk.w0
  have hP := hk.pl
  have hPl := hk.gl.players
  have hf := jG hk.gl.led
  have hzl := hk.gl.len
  obtain ⟨p1, p2⟩ := wV hp
  have hw4 : 0 ≤ x.Week ∧ x.Week ≤ 400 := by omega
  obtain ⟨C, hC⟩ : ∃ C, C = c.To.zip c.Prizes := ⟨_, rfl⟩
  have hCl : C.length = c.Prizes.length := by rw [hC, List.length_zip]; omega
  have hCi : ∀ (i : Nat) (h : i < C.length), C[i] = (c.To[i]'(by omega), c.Prizes[i]'(by omega)) := by intro i h; simp [hC]
  refine aGx (S := aM × List Bool) (fun k i s => dT best worst l x c k i s.1 s.2) c.Prizes.length (fun t => t = some true)
    (fun i s => s.1 = sW l (gC x.Week l.Reports (C.take i)) ∧ s.2.length = l.Players.toNat ∧ (∀ p ∈ c.To.take i, p ∈ qQ l x.Week) ∧ (c.To.take i).Nodup ∧ ∀ p, 0 ≤ p → vQ s.2 p = decide (p ∈ c.To.take i)) ?_ ?_ BIG 0 (l, List.replicate l.Players.toNat false) (cY (by omega)) ?_
  · intro k i s hi hI hnext
    obtain ⟨i1, i2, i3, i4, i5⟩ := hI
    have hlt : decide ((i : Int) < (c.Prizes.length : Int)) = true := decide_eq_true (by omega)
    have hti : i < c.To.length := by omega
    obtain ⟨t, ht⟩ : ∃ t, t = c.To[i] := ⟨_, rfl⟩
    show dT best worst l x c (k + 1) (i : Int) s.1 s.2 = some true
    rw [dT, hlt, cond_true, dD hti, Option.bind_some, eO, Option.bind_some, ← ht]
    cases hr : (decide (t < 0) || decide (l.Players ≤ t)) with
    | true => rw [cond_true, Option.bind_some, cond_true, Option.bind_some, cond_true, works]
    | false =>
      simp only [Bool.or_eq_false_iff, decide_eq_false_iff_not] at hr
      have htl : t.toNat < s.2.length := by omega
      have hut : s.2[t.toNat] = vQ s.2 t := by unfold vQ; simp [List.getD, List.getElem?_eq_getElem htl]
      have haw : gJ l.Bans t x.Week = some (hO l.Bans t x.Week) := aCs _ _ _ (by omega)
      rw [cond_false, aJa (by omega) htl, Option.bind_some, Option.bind_some, haw, Option.bind_some, eO, Option.bind_some, hut]
      cases hu : (vQ s.2 t || hO l.Bans t x.Week) with
      | true => rw [cond_true, works]
      | false =>
        simp only [Bool.or_eq_false_iff] at hu
        have htf : t ∈ qQ l x.Week := List.mem_filter.2 ⟨List.mem_map.2 ⟨t.toNat, List.mem_range.2 (by omega), by omega⟩, by rw [hu.2]; rfl⟩
        have hnt : t ∉ c.To.take i := by
          have := i5 t (by omega)
          rw [hu.1] at this
          exact of_decide_eq_false this.symm
        have hti' : c.To.take (i + 1) = c.To.take i ++ [t] := by rw [List.take_succ_eq_append_getElem hti, ht]
        have hci' : C.take (i + 1) = C.take i ++ [(t, c.Prizes[i])] := by rw [List.take_succ_eq_append_getElem (by omega), hCi i (by omega), ht]
        have hco : ∀ y ∈ C.take i, OkC l.Players y := by
          intro y hy
          obtain ⟨j, hj, rfl⟩ := List.getElem_of_mem hy
          simp only [List.length_take] at hj
          rw [List.getElem_take, hCi j (by omega)]
          have hjt : c.To[j]'(by omega) ∈ c.To.take i := List.mem_take_iff_getElem.2 ⟨j, by omega, rfl⟩
          have := (wT l x.Week).2 _ (i3 _ hjt)
          exact ⟨this, p2 _ (List.getElem_mem _)⟩
        have hctl : (C.take i).length ≤ 4 := by simp; omega
        have hdf := vR (P := l.Players) hw4 (C.take i) z hk.gl.okD hco (by omega)
        have hbd : Bd (sW l (gC x.Week l.Reports (C.take i))) := ⟨by show (gC x.Week l.Reports (C.take i)).length ≤ _; rw [vD]; omega, by show l.Bans.length ≤ _; omega, by show l.Frozen.length ≤ _; omega⟩
        have hwith : lO s.1 t x.Week c.Prizes[i] = some (sW l (gC x.Week l.Reports (C.take (i + 1)))) := by
          rw [i1, aKj hbd (fun r hr => ?_), hci', aAl]; rfl
          have hrz := (vE (C.take i) l.Reports z (fun y => (hk.gl.mem y).symm) r).1 hr
          have h1 := tW (hdf.1.reps r hrz)
          have h2 := hdf.1.ids r hrz
          have h3 := hdf.2.1
          omega
        rw [cond_false, Option.bind_some, dD hi, Option.bind_some, hwith, Option.bind_some, cF (by omega)]
        refine hnext (sW l (gC x.Week l.Reports (C.take (i + 1))), s.2.set t.toNat true) ⟨rfl, by simp [i2], fun p hp => ?_, ?_, fun p hp0 => ?_⟩
        · rw [hti'] at hp
          rcases List.mem_append.1 hp with hp | hp
          · exact i3 p hp
          · rw [List.mem_singleton] at hp; subst hp; exact htf
        · rw [hti']
          refine List.nodup_append.2 ⟨i4, by simp, fun a ha b hb => ?_⟩
          rw [List.mem_singleton] at hb; subst hb
          exact fun e => hnt (e ▸ ha)
        · rw [aIc htl (by omega) hp0, i5 p hp0, hti']
          simp
  · intro k i s hni hI
    obtain ⟨i1, i2, i3, i4, i5⟩ := hI
    have hlt : decide ((i : Int) < (c.Prizes.length : Int)) = false := decide_eq_false (by omega)
    show dT best worst l x c (k + 1) (i : Int) s.1 s.2 = some true
    rw [dT, hlt, cond_false, i1, List.take_of_length_le (by omega), hC]
    rw [List.take_of_length_le (by omega)] at i3 i4
    exact aGo hk c hp hcl hbw i3 i4
  · refine ⟨rfl, by simp, by simp, by simp, fun p _ => ?_⟩
    unfold vQ
    rw [List.getD, List.getElem?_replicate]
    split <;> simp
end bounds
theorem tM (l : aM) (x : kH) (c : jI) (ok0 : zR l) (ok1 : vJ x) (ok2 : sY c) : lN l x c = some true := by
  have works : (fI).bind (fun r14 => some r14) = some true := by rw [wC, Option.bind_some]
  unfold lN
  rcases aGk l x.Player x.Week ⟨ok0.2.2.1.1, ok0.2.2.2.1.1, ok0.2.2.2.2.1⟩ with h | ⟨h, z, hk⟩
  · rw [h, Option.bind_some, Bool.not_false, cond_true, Option.bind_some, cond_true, Option.bind_some, cond_true, Option.bind_some, cond_true, Option.bind_some, cond_true, Option.bind_some, cond_true, works]
  · rw [h, Option.bind_some, Bool.not_true, cond_false, Option.bind_some, eO, Option.bind_some, eO, Option.bind_some, eO, Option.bind_some]
    cases hb : (decide (4 < l.Players) || decide (8 < (l.Reports.length : Int)) || decide (2 < (c.Prizes.length : Int)) || !decide ((c.To.length : Int) = (c.Prizes.length : Int))) with
    | true => rw [cond_true, Option.bind_some, cond_true, works]
    | false =>
      simp only [Bool.or_eq_false_iff, decide_eq_false_iff_not, Bool.not_eq_false', decide_eq_true_eq] at hb
      rw [cond_false, aIt _ (by omega), Option.bind_some, Option.bind_some]
      cases hp : prB c.Prizes with
      | false => rw [Bool.not_false, cond_true, works]
      | true =>
        have hw := hk.w0
        have hPl := hk.gl.players
        have hw4 : 0 ≤ x.Week ∧ x.Week ≤ 400 := by omega
        have hP12 : l.Players ≤ 12 := by omega
        obtain ⟨own, hown⟩ : ∃ own, own = mM (jT l z x.Week) x.Player := ⟨_, rfl⟩
        have hn0 : kP l z x.Player x.Week [] = [own] := by rw [hown]; rfl
        have hor := yM hk.gl hP12 (pl := x.Player) hw4 (c := []) (by simp) (by simp)
        have hor' : 0 ≤ own ∧ own ≤ l.Players := by rw [hown]; exact hor
        have hpn : prB [] = true := rfl
        obtain ⟨r1, r2⟩ := aCm hk.gl hP12 (pl := x.Player) hw4 hp
        obtain ⟨ns, hns⟩ : ∃ ns, ns = kP l z x.Player x.Week c.Prizes := ⟨_, rfl⟩
        rw [← hns] at r1 r2
        have d0 : ∀ n : Int, decide (n = n) = true := fun n => decide_eq_true rfl
        rw [Bool.not_true, cond_false, aAz hk.gl hP12 hk.arg c.Prizes (by omega), Option.bind_some, aAz hk.gl hP12 hk.arg [] (by simp), Option.bind_some, aAy hk.gl hP12 hk.arg, Option.bind_some, hp, hpn, Bool.not_true, cond_false, cond_false, hn0, ← hns, ← hown]
        have hsame : (bif !decide ((pI l.Players [own]).2.2 = (tA own).2) then (some true) else ((bif decide ((pI l.Players [own]).2.2 = 0) then ((bif !decide ((pI l.Players [own]).1 = (tA own).1) then (some true) else (some (!decide ((pI l.Players [own]).2.1 = (tA own).1)))).bind fun b15 => some b15) else (some false)).bind fun b16 => some b16)) = some false := by
          unfold pI tA
          by_cases h0 : own = 0
          · rw [h0]; rfl
          · have ha : ([own].any fun n => decide (n = 0)) = false := by simp [h0]
            have e1 : [own].foldl min (l.Players + 1) = own := by show min (l.Players + 1) own = own; omega
            have e2 : [own].foldl max 0 = own := by show max 0 own = own; omega
            rw [ha, cond_false, e1, e2, decide_eq_false h0, cond_false, d0, d0]; rfl
        rw [hsame, Option.bind_some, cond_false]
        cases hz : ns.any fun n => decide (n = 0) with
        | true =>
          have hv : pI l.Players ns = (0, 0, 3) := by unfold pI; rw [hz]; rfl
          rw [hv]
          have n3 : (!decide ((3 : Int) = 0)) = true := rfl
          rw [n3, cond_true, d0, Bool.not_true, Option.bind_some, Option.bind_some, cond_false, cond_true, works]
        | false =>
          have hv : pI l.Players ns = (ns.foldl min (l.Players + 1), ns.foldl max 0, 0) := by unfold pI; rw [hz]; rfl
          rw [hv, d0, Bool.not_true, cond_false, Option.bind_some, Option.bind_some, cond_false, cond_false]
          have hne : ∀ n ∈ ns, n ≠ 0 := fun n hn => by simpa using List.any_eq_false.1 hz n hn
          have hge : 1 ≤ ns.foldl min (l.Players + 1) := aGz ns _ (by omega) fun n hn => by have := r1 n hn; have := hne n hn; omega
          have hle : ns.foldl max 0 ≤ l.Players := aFg ns _ (by omega) fun n hn => (r1 n hn).2
          obtain ⟨n, hn⟩ := List.exists_mem_of_ne_nil ns r2
          have m1 := (aDp ns (l.Players + 1)).2 n hn
          have m2 := (aDl ns 0).2 n hn
          rw [decide_eq_false (show ¬ ns.foldl min (l.Players + 1) < 1 by omega), cond_false, decide_eq_false (show ¬ ns.foldl max 0 < ns.foldl min (l.Players + 1) by omega), Option.bind_some, cond_false, decide_eq_false (show ¬ l.Players < ns.foldl max 0 by omega), Option.bind_some, cond_false, aFa hk.gl.bd, Option.bind_some]
          have hmk : mk 1 l.Players false = some (List.replicate l.Players.toNat false) := by
            obtain ⟨P, hPe⟩ : ∃ P : Nat, l.Players = P := ⟨l.Players.toNat, by omega⟩
            rw [hPe, aJw (by omega)]; rfl
          rw [hmk, Option.bind_some]
          exact aGp hk c hp (by omega) fun n hn => by
            rw [← hns] at hn
            exact ⟨hne n hn, (aDp ns _).2 n hn, (aDl ns _).2 n hn⟩
end Go.Am
