/- The plain law BracketFar. -/
import Derived.Test.YtenffgkkeafnpaaBmPlain1
import Derived.Test.YtenffgkkeafnpaaBracketMay1
namespace Go.Am

theorem aFy (A : Option Int) (U : Option Unit) (M : Option (List Int × Int)) (W : Option Bool) (F : List Int → Option Bool) {c : Bool} (hA : A = some 0) (hW : W = some true) (h : c = false → ∃ m, U = some () ∧ M = some (m, 0) ∧ F m = some true) :
    (A.bind fun r25 => bif !decide (r25 = 0) then (some false) else (bif c then (W.bind fun r26 => some r26) else (U.bind fun u27 => M.bind fun r28 => bif !decide (r28.2 = 0) then (some false) else (F r28.1)))) = some true := by
  subst hA; subst hW
  cases c with
  | true => rfl
  | false =>
    obtain ⟨m, h1, h2, h3⟩ := h rfl
    rw [h1, h2]
    exact h3
section
variable {t : aO} {l : List aD} {d : List Int} (hg : Good t l d) {a n : Nat} (ha : a < d.length) (a0 : d.getD a 0 ≠ -1)
include hg ha a0
omit a0 in
/-- Somebody else can win a match that the player has not won for sure. -/
theorem aHn (hn : n < t.Rounds.toNat) (hcw : CW (dC d (Res l)) d a n) (hno : ¬ dC d (Res l) (cell a n) (d.getD a 0)) : ∃ c, c < d.length ∧ d.getD c 0 ≠ -1 ∧ d.getD c 0 ≠ d.getD a 0 ∧ cell c n = cell a n ∧ iC (fun m v => dC d (Res l) m v ∨ sC d a n m v) (clm d c n) := by
  have ht := hg.ht
  have hD := hg.dok
  have hlen := hD.len
  -- enough: the ways meet in this match alone
  have fin : ∀ c, c < d.length → d.getD c 0 ≠ -1 → d.getD c 0 ≠ d.getD a 0 → cell c n = cell a n → (∀ q, q < n → c / 2 ^ (q + 1) ≠ a / 2 ^ (q + 1)) → iC (dC d (Res l)) (clm d c n) → ∃ c, c < d.length ∧ d.getD c 0 ≠ -1 ∧ d.getD c 0 ≠ d.getD a 0 ∧ cell c n = cell a n ∧ iC (fun m v => dC d (Res l) m v ∨ sC d a n m v) (clm d c n) := by
    intro c hc c0 c1 c2 c3 c4
    refine ⟨c, hc, c0, c1, c2, ?_⟩
    rintro m v w (hp | ⟨rfl, q', hq', rfl⟩) hq
    · exact c4 m v w hp hq
    · obtain ⟨rfl, q, hq, he⟩ := hq
      have := aCr he
      exact absurd (by rw [this.2, this.1]) (c3 q' hq')
  by_cases hex : ∃ v, dC d (Res l) (cell a n) v
  · obtain ⟨v, hv⟩ := hex
    obtain ⟨c, hc, e, cn, hcc, _, hall⟩ := hg.at_cell hv
    have hva : v ≠ d.getD a 0 := fun h => hno (h ▸ hv)
    refine fin c hc cn (fun h => hva (e.trans h)) hcc (fun q hq he => hva ?_) ?_
    · refine hcw q hq v ?_
      have : cell a q = cell c q := by simp only [cell, he]
      rw [this]; exact hall q (by omega)
    · rintro m v' w hP ⟨rfl, q, hq, rfl⟩
      exact (hg.fn _ _ _ hP (hall q hq)).trans e
  · by_cases h0 : n = 0
    · subst h0
      have hsl : sib a < d.length := by rw [hlen]; exact rS ht (by omega)
      have hsn : d.getD (sib a) 0 ≠ -1 := fun hb => hex ⟨d.getD a 0, .inl ⟨sib a, hsl, hb, by rw [aBe], by rw [aBe]⟩⟩
      have hne : sib a ≠ a := by unfold sib; split <;> omega
      refine fin (sib a) hsl hsn (fun h => hne (hD.uni hsl ha h hsn)) (sU a) (by omega) ?_
      rintro m v w hP ⟨rfl, q, hq, rfl⟩
      have : q = 0 := by omega
      subst this
      rw [sU] at hP
      exact absurd ⟨v, hP⟩ hex
    · have hph := rC (t := t) (r := n - 1) (by omega)
      have e1 : n - 1 + 1 = n := by omega
      rw [e1] at hph
      have hin := kF ht (hlen ▸ ha) hn
      have hd2 : ∀ z : Nat, z / 2 ^ (n + 1) = z / 2 ^ n / 2 := fun z => by rw [Nat.pow_succ, Nat.div_div_eq_div_mul]
      rw [hd2] at hin
      have hp' : sib (a / 2 ^ n) < cD t ((n - 1 : Nat) : Int) := by
        rw [hph]; have := zE (a / 2 ^ n); omega
      obtain ⟨c, hc, cn, hcc, hco⟩ := hg.someone (q := n - 1) (by omega) hp'
      have hcp : c / 2 ^ n = sib (a / 2 ^ n) := by
        simp only [cell, aB.mk.injEq] at hcc
        have := hcc.2
        rw [e1] at this
        exact Int.ofNat_inj.1 this
      have hsne : sib (a / 2 ^ n) ≠ a / 2 ^ n := by unfold sib; split <;> omega
      have hca : c ≠ a := fun h => hsne (by rw [← hcp, h])
      have hcc2 : cell c n = cell a n := by
        simp only [cell, hd2, hcp, zE]
      refine fin c hc cn (fun h => hca (hD.uni hc ha h cn)) hcc2 (fun q hq he => hsne ?_) ?_
      · have h3 : ∀ z : Nat, z / 2 ^ n = z / 2 ^ (q + 1) / 2 ^ (n - (q + 1)) := fun z => by
          rw [Nat.div_div_eq_div_mul, ← Nat.pow_add]; congr 2; omega
        rw [← hcp, h3 c, h3 a, he]
      · rintro m v w hP ⟨rfl, q, hq, rfl⟩
        by_cases hqn : q = n
        · subst hqn
          rw [hcc2] at hP
          exact absurd ⟨v, hP⟩ hex
        · exact hco _ v _ hP ⟨rfl, q, by omega, rfl⟩
omit a0 in
theorem aKt {x : dX} (hA : x.A = d.getD a 0) (hB : x.B = (n : Int)) (hn : n ≤ t.Rounds.toNat) (hcw : CW (dC d (Res l)) d a n) (hno : n < t.Rounds.toNat → ¬ dC d (Res l) (cell a n) (d.getD a 0)) {o : List aD} (hG : Good t o d) (hC : ∀ m v, dC d (Res o) m v ↔ dC d (Res l) m v ∨ sC d a n m v) :
    iU a t x o = some true := by
  have ht := hg.ht
  have hD := hg.dok
  have hlen := hD.len
  have h1 := ht.r1
  have h5 := ht.r5
  unfold iU nP nB
  refine aFy _ _ _ _ (fun m => dW m x BIG false 0) (mL hG) oW fun hc => ?_
  have hR : n ≠ t.Rounds.toNat := fun e => by rw [hB] at hc; simp only [decide_eq_false_iff_not] at hc; omega
  have hlt : n < t.Rounds.toNat := by omega
  have hw : w64 (x.B + 1) = ((n + 1 : Nat) : Int) := by rw [hB]; exact cF (by omega)
  have hu : IntKind.u64.wrap ((n + 1 : Nat) : Int) = ((n + 1 : Nat) : Int) := lR (by omega) (by omega)
  have hch : chk (decide (0 ≤ ((n + 1 : Nat) : Int))) = some () := by unfold chk; rw [decide_eq_true (by omega)]; rfl
  have hmin : min ((n + 1 : Nat) : Int).toNat 64 = n + 1 := by omega
  have hin := kF ht (hlen ▸ ha) hlt
  obtain ⟨must, hd, hM⟩ := oC hG
  have hmay := aCi hG hd hM (aKh ht hlt hin)
  have hml := aJm hG must n (a / 2 ^ (n + 1))
  obtain ⟨c, hc', c0, c1, c2, c3⟩ := aHn hg ha hlt hcw (hno hlt)
  have hmem : d.getD c 0 ∈ fT (qX d must t n (a / 2 ^ (n + 1))) := (aKx hG hM hlt).2 ⟨c, hc', rfl, c0, c2, fun m v w hp hq => c3 m v w ((hC m v).1 hp) hq⟩
  refine ⟨fT (qX d must t n (a / 2 ^ (n + 1))), by rw [hw, hu, hch], by rw [hw, hu, hmin, oD, hB, hmay], ?_⟩
  generalize fT (qX d must t n (a / 2 ^ (n + 1))) = m at *
  have := fB (S := Bool) (fun k i f => dW m x k f i) m.length (fun _ _ => some true) (fun i f => f = decide (∃ y ∈ m.take i, y ≠ x.A)) ?_ ?_ BIG false (cU (by omega)) (by simp)
  · exact this
  · rintro k i f hi rfl ih
    have hlt : decide ((i : Int) < (m.length : Int)) = true := decide_eq_true (by omega)
    have ht1 : m.take (i + 1) = m.take i ++ [m[i]] := List.take_succ_eq_append_getElem hi
    simp only [dW, hlt, cond_true, cI hi, Option.bind_some, nG, cF (show i < 9223372036854775807 by omega)]
    refine ih _ ?_
    rw [ht1, Bool.eq_iff_iff]
    simp only [Bool.or_eq_true, decide_eq_true_eq, Bool.not_eq_true', decide_eq_false_iff_not, List.mem_append, List.mem_singleton]
    constructor
    · rintro (⟨y, hy, hy2⟩ | h)
      · exact ⟨y, .inl hy, hy2⟩
      · exact ⟨_, .inr rfl, h⟩
    · rintro ⟨y, hy | rfl, hy2⟩
      · exact .inl ⟨y, hy, hy2⟩
      · exact .inr hy2
  · rintro k f rfl
    have hlt : decide ((m.length : Int) < (m.length : Int)) = false := decide_eq_false (by omega)
    have hex : decide (∃ y ∈ m, y ≠ x.A) = true := decide_eq_true ⟨_, hmem, by rw [hA]; exact c1⟩
    rw [List.take_length]
    simp only [dW, hlt, cond_false, lB, hex, cond_true, oW, Option.bind_some]
theorem aJa {x : dX} (hA : x.A = d.getD a 0) (hB : x.B = (n : Int)) (h50 : l.length ≤ 50) (hn : n ≤ t.Rounds.toNat) (hcw : CW (dC d (Res l)) d a n) (hno : n < t.Rounds.toNat → ¬ dC d (Res l) (cell a n) (d.getD a 0)) : dV a t x BIG 0 l = some true := by
  have ht := hg.ht
  have hD := hg.dok
  have hlen := hD.len
  have h5 := ht.r5
  have ra := hD.rng a ha
  have a9 := hg.le999 ha
  have hal : a < t.Slots.length := hlen ▸ ha
  have hE := fun o (hG : Good t o d) hC => aKt hg ha hA hB hn hcw hno hG hC
  refine oF (S := List aD) (fun k i o => dV a t x k i o) n (fun o => o = some true)
    (fun i o => i ≤ n ∧ aFm t d o (fun m v => dC d (Res l) m v ∨ sC d a i m v) False (50 + i)) ?_ ?_ BIG 0 l (cU (by omega)) ⟨Nat.zero_le _, hg.slips, h50, .inl ⟨hg, fun m v => ?_⟩⟩
  · rintro k i o hi ⟨hil, hAd⟩ ih
    have hlt : decide ((i : Int) < x.B) = true := decide_eq_true (by omega)
    have e1 := aMe ht (l := o) (a := a) (k := i) (by have := hAd.2.1; omega) hal (by omega) x.A
    have s1 := aFr ht hlen hAd (by omega) ha (k := i) (by omega) a9 (by omega) (C' := fun m v => dC d (Res l) m v ∨ sC d a (i + 1) m v) (fun m v => by
      have := aIl d a i m v
      have hle : sC d a i m v → sC d a (i + 1) m v := aLi (by omega)
      rw [← this]
      constructor
      · rintro (h | h)
        · exact .inl (.inl h)
        · exact .inr h
      · rintro ((h | h) | h)
        · exact .inl h
        · exact .inr (hle h)
        · exact .inr h) (fun hnc => hnc (by
      rintro m v w hp ⟨rfl, q, hq, rfl⟩
      rcases hp with hp | hp
      · exact hcw q (by omega) v hp
      · exact hp.1))
    rw [← hA] at s1
    simp only [dV, hlt, cond_true, e1, Option.bind_some, cF (show i < 9223372036854775807 by omega)]
    exact ih _ ⟨hi, s1⟩
  · rintro k i o hi ⟨hil, hAd⟩
    have : i = n := by omega
    subst this
    have hlt : decide ((i : Int) < x.B) = false := decide_eq_false (by omega)
    simp only [dV, hlt, cond_false]
    rcases hAd.2.2 with ⟨hG, hC⟩ | ⟨_, hF⟩
    · exact hE o hG hC
    · exact hF.elim
  · unfold sC
    constructor
    · exact .inl
    · rintro (h | ⟨_, q, hq, _⟩)
      · exact h
      · omega
end
theorem aGd {t : aO} (d : List Int) (must : List (List Int)) (a : Nat) : oV d must a t ≤ lJ d must a t := by
  have h1 : oV d must a t ≤ t.Rounds.toNat := yF _ _
  refine (uC h1).2 fun q hq => ?_
  have := (uC (bad := uZ d must a) (n := t.Rounds.toNat) (r := oV d must a t) h1).1 (Nat.le_refl _) q hq
  unfold uZ at this
  unfold wI
  rw [this, Bool.and_false]
theorem aFx (z e lo hi R B : Int) (W X : Option Bool) (hW : W = some true) (h1 : z < 0 → e = 3) (h2 : ¬ z < 0 → e = 0 ∧ 0 ≤ lo ∧ lo ≤ hi ∧ hi ≤ R) (hX : ¬ z < 0 → lo ≤ B → B ≤ hi → X = some true) :
    (bif decide (z < 0) then ((bif decide (e = 3) then (W.bind fun r13 => some r13) else (some false)).bind fun b14 => some b14)
    else ((bif !decide (e = 0) then (some true) else (some (decide (lo < 0)))).bind fun b15 =>
    (bif b15 then (some true) else (some (decide (hi < lo)))).bind fun b16 =>
    (bif b16 then (some true) else (some (decide (R < hi)))).bind fun b17 =>
    bif b17 then (some false)
    else ((bif decide (B < lo) then (some true) else (some (decide (hi < B)))).bind fun b18 =>
    bif b18 then (W.bind fun r19 => some r19) else X))) = some true := by
  subst hW
  by_cases hz : z < 0
  · rw [decide_eq_true hz, h1 hz]; rfl
  · obtain ⟨e0, l0, lh, hR⟩ := h2 hz
    have c1 : decide (lo < 0) = false := decide_eq_false (by omega)
    have c2 : decide (hi < lo) = false := decide_eq_false (by omega)
    have c3 : decide (R < hi) = false := decide_eq_false (by omega)
    rw [decide_eq_false hz, e0, c1, c2, c3]
    simp only [cond_false, decide_true, Bool.not_true, Option.bind_some, nG]
    by_cases hb : B < lo ∨ hi < B
    · have : (decide (B < lo) || decide (hi < B)) = true := by simpa using hb
      rw [this]; rfl
    · have : (decide (B < lo) || decide (hi < B)) = false := by simpa using hb
      rw [this, cond_false]
      exact hX hz (by omega) (by omega)
section
variable {t : aO} {l : List aD} {d : List Int} (hg : Good t l d) {must : List (List Int)} (hM : MustIs t must (dC d (Res l))) {x : dX} (hA : wi x.A 0 999 = true) (h50 : l.length ≤ 50)
include hg hM hA h50
theorem aJb : gN l (lG t d must x.A).2 (gJ d x.A) t x (lG t d must x.A).1 = some true := by
  have ht := hg.ht
  have hD := hg.dok
  have hlen := hD.len
  have h1 := ht.r1
  have hA' := gU.1 hA
  have hR : lG t d must x.A = if gJ d x.A < 0 then (⟨0, 0⟩, 3) else (⟨oV d must (gJ d x.A).toNat t, lJ d must (gJ d x.A).toNat t⟩, 0) := by
    unfold lG; rw [hA, if_pos rfl]; rfl
  have hle := aGd (t := t) d must (gJ d x.A).toNat
  have hmr : lJ d must (gJ d x.A).toNat t ≤ t.Rounds.toNat := yF _ _
  unfold gN
  refine aFx _ _ _ _ _ _ _ _ oW (fun hz => by rw [hR, if_pos hz]) (fun hz => by rw [hR, if_neg hz]; exact ⟨rfl, Int.natCast_nonneg _, (by show ((oV d must (gJ d x.A).toNat t : Nat) : Int) ≤ ((lJ d must (gJ d x.A).toNat t : Nat) : Int); omega), (by show ((lJ d must (gJ d x.A).toNat t : Nat) : Int) ≤ t.Rounds; omega)⟩) fun hz hlo hhi => ?_
  rw [hR, if_neg hz] at hlo hhi
  simp only at hlo hhi
  rcases kV d x.A with ⟨h, _⟩ | ⟨a, h, ha, ea⟩
  · omega
  rw [h] at hlo hhi hmr ⊢
  rw [Int.toNat_natCast] at hlo hhi hmr
  have hcw := (aKk ht hD hM ha (n := x.B.toNat) (by omega)).1 (by omega)
  have hno : x.B.toNat < t.Rounds.toNat → ¬ dC d (Res l) (cell a x.B.toNat) (d.getD a 0) := fun hlt hP => by
    have hall : ∀ q, q ≤ x.B.toNat → dC d (Res l) (cell a q) (d.getD a 0) := by
      obtain ⟨c, hc, e, cn, _, _, hall⟩ := hg.at_cell hP
      have : a = c := hD.uni ha hc e (by rw [e]; exact cn)
      subst this
      exact hall
    have := (aJk ht hD hM ha hlt).2 hall
    omega
  rw [iG (by simp; omega), Option.bind_some, List.nil_append]
  exact aJa hg ha (by omega) ea.symm (by omega) h50 (by omega) hcw hno
theorem aIz : dH l (lG t d must x.A).2 d true t x (lG t d must x.A).1 BIG (-1) 0 = some true := by
  have hD := hg.dok
  have hlen := hD.len
  have h32 := hg.ht.len32
  have hA' := gU.1 hA
  have hK := aJb hg hM hA h50
  generalize (lG t d must x.A).2 = e at *
  generalize (lG t d must x.A).1 = sp at *
  have at_iff : ∀ i, i < d.length → (d.getD i 0 = x.A ↔ gJ d x.A = (i : Int)) := by
    intro i hi
    constructor
    · intro h; rw [← h]; exact aJw hD hi (by omega)
    · intro h
      rcases kV d x.A with ⟨h1, _⟩ | ⟨c, h1, hc, ec⟩
      · omega
      · have : c = i := by omega
        subst this; exact ec
  have := fB (S := Int) (fun k i u => dH l e d true t x sp k u i) d.length (fun i u => gN l e (if (i : Int) ≤ gJ d x.A then gJ d x.A else u) t x sp) (fun i u => gJ d x.A < (i : Int) → u = gJ d x.A) ?_ ?_ BIG (-1) (cU (by omega)) ?_
  · rw [this]
    rcases kV d x.A with ⟨h1, _⟩ | ⟨a, h1, ha, ea⟩ <;> rw [h1] at hK ⊢ <;> simpa using hK
  · rintro k i u hi hu ih
    have hlt : decide ((i : Int) < (d.length : Int)) = true := decide_eq_true (by omega)
    have ia := at_iff i hi
    simp only [dH, hlt, cond_true, Option.bind_some, cI hi, cF (show i < 9223372036854775807 by omega)]
    rw [← bJ hi 0]
    by_cases c : d.getD i 0 = x.A
    · have e1 := ia.1 c
      rw [decide_eq_true c, cond_true, ih _ fun _ => e1.symm, e1, if_neg (by omega), if_pos (by omega)]
    · have e1 := mt ia.2 c
      rw [decide_eq_false c, cond_false, ih _ fun h => hu (by omega)]
      by_cases c2 : (i : Int) ≤ gJ d x.A
      · rw [if_pos c2, if_pos (by omega)]
      · rw [if_neg c2, if_neg (by omega)]
  · rintro k u hu
    have hlt : decide ((d.length : Int) < (d.length : Int)) = false := decide_eq_false (by omega)
    have ba : gJ d x.A < (d.length : Int) := by rcases kV d x.A with ⟨h1, _⟩ | ⟨a, h1, ha, _⟩ <;> omega
    simp only [dH, hlt, cond_false, Option.bind_some]
    rw [if_neg (by omega)]
  · intro h
    rcases kV d x.A with ⟨h1, _⟩ | ⟨a, h1, ha, _⟩
    · exact h1.symm
    · have h' : gJ d x.A < (0 : Int) := h
      omega
end
theorem aKu (A : Option (cZ × Int)) (C : Option (List Int × Bool)) (F : Int → List Int → Bool → cZ → Option Bool) {r : cZ × Int} {d : List Int} (hA : A = some r) (hC : C = some (d, true)) (hF : F r.2 d true r.1 = some true) :
    (A.bind fun r8 => C.bind fun r10 => F r8.2 r10.1 r10.2 r8.1) = some true := by
  subst hA; subst hC; exact hF
theorem rX (t : aO) (l : List aD) (x : dX) (ht : aBt t) (hl : okL xB l) (hx : sG x) : kG t l x = some true := by
  unfold kG
  rcases aEp t l with hr | ⟨d, hg, hr, h60⟩
  · simp only [hr, Option.bind_some, Bool.not_false, cond_true, oW]
  · rw [hr, Option.bind_some, Bool.not_true, cond_false, Option.bind_some, nG, Option.bind_some, nG, Option.bind_some]
    cases hb : (decide (50 < (l.length : Int)) || decide (x.A < 0) || decide (999 < x.A)) with
    | true => rw [cond_true, oW]; rfl
    | false =>
      rw [cond_false]
      simp only [Bool.or_eq_false_iff, decide_eq_false_iff_not] at hb
      obtain ⟨⟨h1, h2⟩, h3⟩ := hb
      obtain ⟨must, hd, hM⟩ := oC hg
      have hF := aIz hg hM (gU.2 ⟨by omega, by omega⟩ : wi x.A 0 999 = true) (by omega)
      exact aKu _ _ (fun e dd i sp => dH l e dd i t x sp BIG (-1) 0) (wE hg hd hM x.A) (aCj hg) hF
end Go.Am
