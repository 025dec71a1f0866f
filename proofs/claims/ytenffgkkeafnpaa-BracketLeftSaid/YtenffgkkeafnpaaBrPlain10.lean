/- Layer 7, plain: the reference's draw, whole. -/
import Derived.Test.YtenffgkkeafnpaaBrPlain9
namespace Go.Am

/-- The outcome where slips do not agree. -/
abbrev xM : Option (aQ × Bool) := some (aQ.mk [] [], false)
/-- The outcome of the reference's draw. -/
def Out (t : aO) (d : List Int) (l : List aE) (o : Option (aQ × Bool)) : Prop :=
  (OKF d l → ∃ must, o = some (⟨d, must⟩, true) ∧ MustIs t must (eA d (Res l))) ∧ (¬ OKF d l → o = xM)
theorem Out.bad {t : aO} {d : List Int} {l : List aE} (h : ¬ OKF d l) : Out t d l xM := ⟨fun h' => absurd h' h, fun _ => rfl⟩

section
variable {t : aO} (ht : TreeOK t) {d : List Int} (hD : DOK t d) {l : List aE} (hR : ∀ s, Res l s → ROK t s)
include ht hD

theorem aHw {P : kN} {x : aE} (hx : ROK t x) {a : Nat} (ha : a < d.length) (he : d.getD a 0 = x.Player) (a4 : Int → aQ → List (List Int) → Option (aQ × Bool)) (all : List aE) (i : Int) (o4 : aQ)
    {must : List (List Int)} (h : MustIs t must P) (hok : nI P (clm d a x.Round.toNat) → ∀ must', MustIs t must' (fun m v => P m v ∨ clm d a x.Round.toNat m v) → Out t d l (a4 (w64 (i + 1)) o4 must'))
    (hbad : ¬ nI P (clm d a x.Round.toNat) → ¬ OKF d l) : Out t d l (fJ a4 d all i a d x BIG 0 o4 must) := by
  have h5 := ht.r5
  have hr0 := hx.r0
  have hr1 := hx.r1
  have hp0 := hx.p0
  have hal : a < t.Slots.length := by rw [← hD.len]; exact ha
  have key : ∀ n q k must', q + n = x.Round.toNat + 1 → n < k → MustIs t must' (fun m v => P m v ∨ (v = d.getD a 0 ∧ ∃ p, p < q ∧ m = cell a p)) → (∀ p, p < q → ∀ v, P (cell a p) v → v = d.getD a 0) →
      Out t d l (fJ a4 d all i a d x k q o4 must') := by
    intro n
    induction n with
    | zero =>
      intro q k must' hq hk hW hc
      cases k with
      | zero => omega
      | succ k =>
        have hlt : decide ((q : Int) ≤ x.Round) = false := decide_eq_false (by omega)
        simp only [fJ, hlt, cond_false, nT, iT]
        refine hok ?_ must' (hW.ext fun m v => ?_)
        · rintro m v w hp ⟨rfl, p, hp', rfl⟩
          exact hc p (by omega) v hp
        · constructor
          · rintro (h | ⟨e, p, hp, e2⟩)
            · exact .inl h
            · exact .inr ⟨e, p, by omega, e2⟩
          · rintro (h | ⟨e, p, hp, e2⟩)
            · exact .inl h
            · exact .inr ⟨e, p, by omega, e2⟩
    | succ n ih =>
      intro q k must' hq hk hW hc
      cases k with
      | zero => omega
      | succ k =>
        have hlt : decide ((q : Int) ≤ x.Round) = true := decide_eq_true (by omega)
        have hqR : q < t.Rounds.toNat := by omega
        have hw : w64 ((q : Int) + 1) = ((q + 1 : Nat) : Int) := cI (by omega)
        have hu : IntKind.u64.wrap ((q + 1 : Nat) : Int) = ((q + 1 : Nat) : Int) := oS (by omega) (by omega)
        have hch : chk (decide (0 ≤ ((q + 1 : Nat) : Int))) = some () := by unfold chk; rw [decide_eq_true (by omega)]; rfl
        have hmin : min ((q + 1 : Nat) : Int).toNat 64 = q + 1 := by omega
        have hml := hW.len
        have hrl := hW.row q hqR
        have hpin := nP ht hal hqR
        have hql : q < must'.length := by omega
        have hi1 : idx must' (q : Int) = some (must'.getD q []) := by rw [cK hql, bP hql]
        have hi2 : idx (must'.getD q []) ((a / 2 ^ (q + 1) : Nat) : Int) = some (mat must' q (a / 2 ^ (q + 1))) := by
          have hlt' : a / 2 ^ (q + 1) < (must'.getD q []).length := by omega
          rw [cK hlt']; exact congrArg some (bP hlt' (-2)).symm
        simp only [fJ, hlt, cond_true, hw, hu, hch, hmin, rB, Option.bind_some, hi1, hi2]
        have hmem := fun v => hW.mem q (a / 2 ^ (q + 1)) v hqR hpin
        have hcell : (⟨(q : Int), ((a / 2 ^ (q + 1) : Nat) : Int)⟩ : aB) = cell a q := rfl
        rw [hcell] at hmem
        by_cases hex : mat must' q (a / 2 ^ (q + 1)) ≠ -2 ∧ mat must' q (a / 2 ^ (q + 1)) ≠ x.Player
        · simp only [hex.1, hex.2, decide_false, Bool.not_false, cond_true, Option.bind_some]
          refine Out.bad (hbad fun hco => hex.2 ?_)
          rcases (hmem _).1 ⟨rfl, hex.1⟩ with h | ⟨h, _⟩
          · rw [← he]; exact hco _ _ _ h ⟨rfl, q, by omega, rfl⟩
          · rw [h, he]
        · have hb : ((bif !decide (mat must' q (a / 2 ^ (q + 1)) = -2) then some (!decide (mat must' q (a / 2 ^ (q + 1)) = x.Player)) else some false) : Option Bool) = some false := by
            rw [fN, Option.some.injEq, Bool.and_eq_false_iff]
            by_cases h1 : mat must' q (a / 2 ^ (q + 1)) = -2
            · exact .inl (by simp [h1])
            · exact .inr (by simpa using fun h2 => hex ⟨h1, h2⟩)
          have hall : ∀ v, (P (cell a q) v ∨ (v = d.getD a 0 ∧ ∃ p, p < q ∧ cell a q = cell a p)) → v = d.getD a 0 := by
            intro v hv
            have ⟨h1, h2⟩ := (hmem v).2 hv
            rw [he]
            refine Classical.byContradiction fun hne => hex ⟨by rw [h1]; exact h2, by rw [h1]; exact hne⟩
          simp only [hb, Option.bind_some, cond_false]
          simp only [← he]
          have e8 : ((q : Int)).toNat = q := by omega
          have e9 : (((a / 2 ^ (q + 1) : Nat)) : Int).toNat = a / 2 ^ (q + 1) := Int.toNat_natCast _
          rw [e8, e9]
          rw [← he] at hp0
          refine ih (q + 1) k _ (by omega) (by omega) ((hW.set hqR hpin (n := d.getD a 0) (by omega) hall).ext fun m v => ?_) fun p hp v hv => ?_
          · rw [hcell]
            constructor
            · rintro ((h | ⟨e, p, hp, e2⟩) | ⟨e1, e2⟩)
              · exact .inl h
              · exact .inr ⟨e, p, by omega, e2⟩
              · exact .inr ⟨e2, q, by omega, e1⟩
            · rintro (h | ⟨e, p, hp, e2⟩)
              · exact .inl (.inl h)
              · by_cases hpq : p = q
                · subst hpq; exact .inr ⟨e2, e⟩
                · exact .inl (.inr ⟨e, p, by omega, e2⟩)
          · by_cases hpq : p = q
            · subst hpq; exact hall v (.inl hv)
            · exact hc p (by omega) v hv
  exact key (x.Round.toNat + 1) 0 BIG must (by omega) (cW (by omega)) (h.ext fun m v => by simp) (fun p hp => by omega)

omit ht in
theorem aKc (hl : d.length ≤ 1000) {x : aE} (hp : 0 ≤ x.Player) (a4 : Int → aQ → List (List Int) → Option (aQ × Bool)) (all : List aE) (i : Int) (o4 : aQ) (must : List (List Int)) (d2 : List Int) :
    (∀ a, a < d.length → d.getD a 0 = x.Player → dP a4 d all i o4 must d2 x BIG (-1) 0 = fR a4 d all i a o4 must d2 x) ∧
    ((∀ a, a < d.length → d.getD a 0 ≠ x.Player) → dP a4 d all i o4 must d2 x BIG (-1) 0 = fR a4 d all i (-1) o4 must d2 x) := by
  refine ⟨fun a ha he => ?_, fun hno => ?_⟩
  · have := eQ (S := Int) (fun k s at' => dP a4 d all i o4 must d2 x k at' s) d.length (fun s at' => fR a4 d all i (if s ≤ a then (a : Int) else at') o4 must d2 x) (fun _ _ => True) ?_ ?_ BIG (-1) (cW (by omega)) trivial
    · simpa using this
    · intro k s at' hs _ ih
      simp only [dP, Int.ofNat_lt, hs, decide_true, cond_true, cK hs, Option.bind_some, cI (show s < 9223372036854775807 by omega), ih _ trivial]
      rw [← bP hs 0]
      by_cases hsa : s = a
      · subst hsa
        simp only [he, decide_true, cond_true]
        rw [if_neg (by omega), if_pos (Nat.le_refl s)]
      · have : d.getD s 0 ≠ x.Player := fun e => hsa (hD.uni hs ha (e.trans he.symm) (by omega))
        simp only [this, decide_false, cond_false]
        by_cases hle : s ≤ a
        · rw [if_pos hle, if_pos (by omega)]
        · rw [if_neg hle, if_neg (by omega)]
    · intro k at' _
      have hlt : decide ((d.length : Int) < (d.length : Int)) = false := decide_eq_false (by omega)
      simp only [dP, hlt, cond_false]
      rw [if_neg (by omega)]
  · have := eQ (S := Int) (fun k s at' => dP a4 d all i o4 must d2 x k at' s) d.length (fun s at' => fR a4 d all i at' o4 must d2 x) (fun _ _ => True) ?_ ?_ BIG (-1) (cW (by omega)) trivial
    · exact this
    · intro k s at' hs _ ih
      simp only [dP, Int.ofNat_lt, hs, decide_true, cond_true, cK hs, Option.bind_some, cI (show s < 9223372036854775807 by omega), ih _ trivial]
      rw [← bP hs 0]
      simp only [hno s hs, decide_false, cond_false]
    · intro k at' _
      have hlt : decide ((d.length : Int) < (d.length : Int)) = false := decide_eq_false (by omega)
      simp only [dP, hlt, cond_false]

include hR in
theorem aJc (hl : l.length ≤ 1000) : Out t d l (iR l d (aQ.mk [] []) ((List.range t.Rounds.toNat).map (pS t d)) d) := by
  have h5 := ht.r5
  have h32 := ht.len32
  have hlen := hD.len
  have hol := sB l
  unfold iR
  rw [aFx l hl, Option.bind_some]
  refine sA (S := List (List Int)) (fun k i must => dC d (cA l) d k i (aQ.mk [] []) must) (cA l).length (Out t d l)
    (fun i must => MustIs t must (eA d (Res ((cA l).take i))) ∧ (∀ x, Res ((cA l).take i) x → gs d x) ∧ yA ((cA l).take i)) ?_ ?_ BIG 0 _ (cW (by omega)) ?_
  · intro k i must hi ⟨hM, hg, hN⟩ ih
    have hmt : ∀ x, x ∈ (cA l).take (i + 1) ↔ x ∈ (cA l).take i ∨ x = (cA l)[i] := fun x => by
      rw [List.take_succ_eq_append_getElem hi, List.mem_append, List.mem_singleton]
    have hsub : ∀ x, x ∈ (cA l).take i → x ∈ l := fun x hx => (kW l x).1 (List.mem_of_mem_take hx)
    simp only [dC, Int.ofNat_lt, hi, decide_true, cond_true, cK hi, Option.bind_some]
    by_cases hk : (cA l)[i].Kind = 5
    · simp only [hk, decide_true, cond_true, iT, cI (show i < 9223372036854775807 by omega)]
      have hres : ∀ x, Res ((cA l).take (i + 1)) x ↔ Res ((cA l).take i) x := by
        intro x
        unfold Res
        rw [hmt]
        constructor
        · rintro ⟨h | h, h2⟩
          · exact ⟨h, h2⟩
          · exact absurd (h ▸ hk) h2
        · rintro ⟨h, h2⟩; exact ⟨.inl h, h2⟩
      refine ih must ⟨hM.ext fun m v => ?_, fun x hx => hg x ((hres x).1 hx), fun x hx y hy kx ky => hN x ((hres x).1 ⟨hx, kx⟩).1 y ((hres y).1 ⟨hy, ky⟩).1 kx ky⟩
      simp only [eA, yH, hres]
    · have hmi : (cA l)[i] ∈ l := (kW l _).1 (List.getElem_mem hi)
      have hresx : Res l (cA l)[i] := ⟨hmi, hk⟩
      have hx := hR _ hresx
      have hxp := hx.p0
      have hxr0 := hx.r0
      have hxr1 := hx.r1
      simp only [hk, decide_false, cond_false]
      have htwo : fS (dC d (cA l) d k) d (cA l) i must d (cA l)[i] BIG 0 (aQ.mk [] []) =
          bif (List.range i).all fun j => !(!decide ((cA l)[j]?.any (fun y => decide (y.Kind = 5)) = true) && decide ((cA l)[j]?.any (fun y => decide (y.Round = (cA l)[i].Round)) = true) && decide ((cA l)[j]?.any (fun y => decide (y.Place = (cA l)[i].Place)) = true)) then
            lV (dC d (cA l) d k) d (cA l) i (aQ.mk [] []) must d (cA l)[i] else xM := by
        refine tN (fun q j => fS (dC d (cA l) d k) d (cA l) i must d (cA l)[i] q j (aQ.mk [] [])) i _ xM _ ?_ ?_ BIG (cW (by omega))
        · intro q j hj
          have hj' : j < (cA l).length := by omega
          simp only [fS, Int.ofNat_lt, hj, decide_true, cond_true, cK hj', Option.bind_some, fN, cI (show j < 9223372036854775807 by omega), List.getElem?_eq_getElem hj', Option.any_some, decide_eq_true_eq]
          cases (!decide ((cA l)[j].Kind = 5) && decide ((cA l)[j].Round = (cA l)[i].Round) && decide ((cA l)[j].Place = (cA l)[i].Place)) <;> rfl
        · intro q
          have hlt : decide ((i : Int) < (i : Int)) = false := decide_eq_false (by omega)
          simp only [fS, hlt, cond_false]
      rw [htwo]
      cases hall : (List.range i).all fun j => !(!decide ((cA l)[j]?.any (fun y => decide (y.Kind = 5)) = true) && decide ((cA l)[j]?.any (fun y => decide (y.Round = (cA l)[i].Round)) = true) && decide ((cA l)[j]?.any (fun y => decide (y.Place = (cA l)[i].Place)) = true)) with
      | false =>
        rw [cond_false]
        refine Out.bad fun hO => ?_
        rw [List.all_eq_false] at hall
        obtain ⟨j, hj, hb⟩ := hall
        simp only [List.mem_range] at hj
        have hj' : j < (cA l).length := by omega
        rw [Bool.not_eq_true, Bool.not_eq_false'] at hb
        simp only [List.getElem?_eq_getElem hj', Option.any_some, Bool.and_eq_true, Bool.not_eq_true', decide_eq_true_eq, decide_eq_false_iff_not] at hb
        have := hO.two _ ((kW l _).1 (List.getElem_mem hj')) _ hmi hb.1.1 hk hb.1.2 hb.2
        have := (List.getElem_inj (uO l)).1 this
        omega
      | true =>
        rw [cond_true]
        rw [pW] at hall
        have hfresh : ∀ y, y ∈ (cA l).take i → y.Kind ≠ 5 → ¬ (y.Round = (cA l)[i].Round ∧ y.Place = (cA l)[i].Place) := by
          rintro y hy ky ⟨e1, e2⟩
          obtain ⟨j, hj, rfl⟩ := List.mem_take_iff_getElem.1 hy
          have hj' : j < (cA l).length := by omega
          have := hall j (by omega)
          simp only [List.getElem?_eq_getElem hj', Option.any_some, Bool.not_eq_true', Bool.and_eq_false_iff, Bool.not_eq_false', decide_eq_true_eq, decide_eq_false_iff_not] at this
          rcases this with (h | h) | h
          · exact ky h
          · exact h e1
          · exact h e2
        unfold lV
        have hlast := aKc hD (by omega) hxp (dC d (cA l) d k) (cA l) i (aQ.mk [] []) must d
        by_cases hex : ∃ a, a < d.length ∧ d.getD a 0 = (cA l)[i].Player
        · obtain ⟨a, ha, he⟩ := hex
          rw [hlast.1 a ha he]
          have er : (cA l)[i].Round = (((cA l)[i].Round.toNat : Nat) : Int) := by omega
          have hw : w64 ((cA l)[i].Round + 1) = (((cA l)[i].Round.toNat + 1 : Nat) : Int) := by rw [eT (by omega) (by omega)]; omega
          have hu : IntKind.u64.wrap (((cA l)[i].Round.toNat + 1 : Nat) : Int) = (((cA l)[i].Round.toNat + 1 : Nat) : Int) := oS (by omega) (by omega)
          have hch : chk (decide (0 ≤ (((cA l)[i].Round.toNat + 1 : Nat) : Int))) = some () := by unfold chk; rw [decide_eq_true (by omega)]; rfl
          have hmin : min (((cA l)[i].Round.toNat + 1 : Nat) : Int).toNat 64 = (cA l)[i].Round.toNat + 1 := by omega
          have hneg : decide ((a : Int) < 0) = false := decide_eq_false (by omega)
          have hcell : cell a (cA l)[i].Round.toNat = ⟨(cA l)[i].Round, (cA l)[i].Place⟩ ↔ ((a / 2 ^ ((cA l)[i].Round.toNat + 1) : Nat) : Int) = (cA l)[i].Place := by
            simp only [cell, aB.mk.injEq, ← er, true_and]
          unfold fR
          simp only [hneg, cond_false, hw, hu, hch, hmin, rB, Option.bind_some]
          by_cases hc : ((a / 2 ^ ((cA l)[i].Round.toNat + 1) : Nat) : Int) = (cA l)[i].Place
          · simp only [hc, decide_true, Bool.not_true, cond_false]
            refine aHw ht hD hx ha he _ _ _ _ hM (fun hco must' hM' => ?_) fun hco hO => hco fun m v w h1 h2 => hO.fn m v w ?_ (.inr ⟨_, hresx, a, ha, he, h2⟩)
            · rw [cI (show i < 9223372036854775807 by omega)]
              have hres : ∀ x, Res ((cA l).take (i + 1)) x ↔ Res ((cA l).take i) x ∨ x = (cA l)[i] := by
                intro x
                unfold Res
                rw [hmt]
                constructor
                · rintro ⟨h | h, h2⟩
                  · exact .inl ⟨h, h2⟩
                  · exact .inr h
                · rintro (⟨h, h2⟩ | rfl)
                  · exact ⟨.inl h, h2⟩
                  · exact ⟨.inr rfl, hk⟩
              refine ih must' ⟨hM'.ext fun m v => ?_, fun x hxx => ?_, fun x hxx y hyy kx ky e1 e2 => ?_⟩
              · constructor
                · rintro ((h | ⟨y, hy, h⟩) | h)
                  · exact .inl h
                  · exact .inr ⟨y, (hres y).2 (.inl hy), h⟩
                  · exact .inr ⟨_, (hres _).2 (.inr rfl), a, ha, he, h⟩
                · rintro (h | ⟨y, hy, h⟩)
                  · exact .inl (.inl h)
                  · rcases (hres y).1 hy with hy | rfl
                    · exact .inl (.inr ⟨y, hy, h⟩)
                    · exact .inr ((xV hD hx ha he m v).1 ⟨_, rfl, h⟩)
              · rcases (hres x).1 hxx with h | rfl
                · exact hg x h
                · exact ⟨a, ha, he, hcell.2 hc⟩
              · rcases (hres x).1 ⟨hxx, kx⟩ with h | rfl
                · rcases (hres y).1 ⟨hyy, ky⟩ with h' | rfl
                  · exact hN x h.1 y h'.1 kx ky e1 e2
                  · exact absurd ⟨e1, e2⟩ (hfresh x h.1 kx)
                · rcases (hres y).1 ⟨hyy, ky⟩ with h' | h'
                  · exact absurd ⟨e1.symm, e2.symm⟩ (hfresh y h'.1 ky)
                  · exact h'.symm
            · rcases h1 with h1 | ⟨y, hy, h1⟩
              · exact .inl h1
              · exact .inr ⟨y, ⟨hsub y hy.1, hy.2⟩, h1⟩
          · simp only [hc, decide_false, Bool.not_false, cond_true]
            exact Out.bad fun hO => hc (hcell.1 ((aIn hD hx ha he).1 (hO.slot _ hresx)))
        · rw [hlast.2 fun a ha e => hex ⟨a, ha, e⟩]
          unfold fR
          simp only [show decide ((-1 : Int) < 0) = true by decide, cond_true, Option.bind_some]
          refine Out.bad fun hO => ?_
          obtain ⟨a, ha, e, _⟩ := hO.slot _ hresx
          exact hex ⟨a, ha, e⟩
  · intro k i must hi ⟨hM, hg, hN⟩
    have hlt : decide ((i : Int) < ((cA l).length : Int)) = false := decide_eq_false (by omega)
    have hta : (cA l).take i = cA l := List.take_of_length_le (by omega)
    rw [hta] at hM hg hN
    have hres : ∀ x, Res (cA l) x ↔ Res l x := fun x => by unfold Res; rw [kW]
    have hM' : MustIs t must (eA d (Res l)) := hM.ext fun m v => by simp only [eA, yH, hres]
    simp only [dC, hlt, cond_false, oI]
    refine ⟨fun _ => ⟨must, rfl, hM'⟩, fun hO => absurd ⟨fun x hx y hy => hN x ((kW l x).2 hx) y ((kW l y).2 hy), fun x hx => hg x ((hres x).2 hx), ?_⟩ hO⟩
    intro m v w h1 h2
    have hin : ∀ {v}, eA d (Res l) m v → ∃ r p : Nat, m = ⟨r, p⟩ ∧ r < t.Rounds.toNat ∧ p < bZ t r := by
      have h1 := ht.r1
      rintro v (⟨j, hj, hb, rfl, _⟩ | ⟨x, hx, a, ha, he, _, q, hq, rfl⟩)
      · refine ⟨0, sib j / 2 ^ (0 + 1), rfl, by omega, nP ht (tU ht (by omega)) (by omega)⟩
      · have := (hR x hx).r1
        have := (hR x hx).r0
        exact ⟨q, a / 2 ^ (q + 1), rfl, by omega, nP ht (by omega) (by omega)⟩
    obtain ⟨r, p, rfl, hr, hp⟩ := hin h1
    exact hM'.func hr hp h1 h2
  · refine ⟨(aMv ht hD).ext fun m v => ?_, fun x hx => absurd hx.1 (by simp), fun x hx => absurd hx (by simp)⟩
    simp [eA, yH, Res]
end

theorem aBx {t : aO} (ht : TreeOK t) {l : List aE} (hs : ∀ s ∈ l, eL t s = true) (hl : l.length ≤ 1000) :
    (∀ d, AGR t l d → ∃ must, cQ t l = some (⟨d, must⟩, true) ∧ MustIs t must (eA d (Res l))) ∧ ((∀ d, ¬ AGR t l d) → cQ t l = xM) := by
  have h32 := ht.len32
  have hP := aGf hl h32 (sT ht) (zX hs)
  unfold cQ
  rw [hP, Option.bind_some]
  cases hp : wB t l with
  | none =>
    have hno : ∀ d, ¬ AGR t l d := fun d h => by have := h.1; unfold kG at this; rw [hp] at this; cases this
    exact ⟨fun d h => absurd h (hno d), fun _ => rfl⟩
  | some q =>
    obtain ⟨d, U⟩ := q
    simp only
    by_cases hU : U.length = (dD l).length
    · have hpo : kG t l = some d := by unfold kG; rw [hp]; simp [hU]
      have hD := wA ht hs hpo
      have hO := aJc ht hD (fun s hr => zY (hs s hr.1) hr.2) hl
      simp only [hU, decide_true, Bool.not_true, cond_false, aKj ht hD]
      refine ⟨fun d' hd' => ?_, fun hno => hO.2 fun h => hno d ⟨hpo, h⟩⟩
      have := hd'.1
      rw [hpo] at this
      cases this
      exact hO.1 hd'.2
    · have hno : ∀ d, ¬ AGR t l d := fun d h => by have := h.1; unfold kG at this; rw [hp] at this; simp [hU] at this
      simp only [hU, decide_false, Bool.not_false, cond_true]
      exact ⟨fun d h => absurd h (hno d), fun _ => trivial⟩
end Go.Am
