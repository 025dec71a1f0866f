/- The plain law BracketMeet. -/
import Derived.Test.YtenffgkkeafnpaaBmPlain1
namespace Go.Am

section
variable {t : aO} {l : List aE} {d : List Int} (hg : Good t l d) {a b : Nat} (ha : a < d.length) (hb : b < d.length) (a0 : d.getD a 0 ≠ -1) (b0 : d.getD b 0 ≠ -1) (hab : a ≠ b)
/-- Both have won their first k matches. -/
def vT (P : iN) (d : List Int) (a b i j : Nat) : iN := fun m v => (P m v ∨ uA d a i m v) ∨ uA d b j m v
include hg ha hb a0 b0 hab
theorem aIz {x : dP} (hA : x.A = d.getD a 0) (hB : x.B = d.getD b 0) (r e : Int) (h50 : l.length ≤ 50)
    (hend : ∀ o, aAl t d o (vT (dN d (Res l)) d a b (bZ t a b) (bZ t a b)) (¬ (CW (dN d (Res l)) d a (bZ t a b) ∧ CW (dN d (Res l)) d b (bZ t a b))) 60 → gR r e a (bZ t a b) t x o = some true) :
    eD r e a b (bZ t a b) t x BIG 0 l = some true := by
  have ht := hg.ht
  have hD := hg.dok
  have hlen := hD.len
  have h5 := ht.r5
  have ra := hD.rng a ha
  have rb := hD.rng b hb
  have a9 := hg.le999 ha
  have b9 := hg.le999 hb
  have hal : a < t.Slots.length := hlen ▸ ha
  have hbl : b < t.Slots.length := hlen ▸ hb
  have hm := pE ht hal hbl
  have hne := fun q hq => wG ht hal hbl (q := q) hq
  refine mP (S := List aE) (fun k i o => eD r e a b (bZ t a b) t x k i o) (bZ t a b) (fun o => o = some true)
    (fun i o => i ≤ bZ t a b ∧ aAl t d o (vT (dN d (Res l)) d a b i i) (¬ (CW (dN d (Res l)) d a (bZ t a b) ∧ CW (dN d (Res l)) d b (bZ t a b))) (50 + 2 * i)) ?_ ?_ BIG 0 l (cZ (by omega)) ⟨Nat.zero_le _, hg.slips, h50, .inl ⟨hg, fun m v => ?_⟩⟩
  · rintro k i o hi ⟨hil, hAd⟩ ih
    have hlt : decide ((i : Int) < (bZ t a b : Int)) = true := decide_eq_true (by omega)
    have e1 := aJu ht (l := o) (a := a) (k := i) (by have := hAd.2.1; omega) hal (by omega) x.A
    have s1 := aAq ht hlen hAd (by omega) ha (k := i) (by omega) a9 (by omega) (C' := vT (dN d (Res l)) d a b (i + 1) i) (fun m v => by
      have := aDf d a i m v
      have hle : uA d a i m v → uA d a (i + 1) m v := aGt (by omega)
      unfold vT
      rw [← this]
      constructor
      · rintro ((h | h) | h)
        · exact .inl (.inl (.inl h))
        · exact .inr h
        · exact .inl (.inr h)
      · rintro (((h | h) | h) | h)
        · exact .inl (.inl h)
        · exact .inl (.inr (hle h))
        · exact .inr h
        · exact .inl (.inr h)) (fun hnc hbo => hnc (by
      rintro m v w hp ⟨rfl, q, hq, rfl⟩
      rcases hp with (hp | hp) | ⟨_, q', hq', he⟩
      · exact hbo.1 q (by omega) v hp
      · exact hp.1
      · have := zS he
        exact absurd (by rw [this.2, this.1]) (hne q (by omega))))
    rw [← hA] at s1
    have e2 := aJu ht (l := qI t o a i x.A) (a := b) (k := i) (by have := s1.2.1; omega) hbl (by omega) x.B
    have s2 := aAq ht hlen s1 (by omega) hb (k := i) (by omega) b9 (by omega) (C' := vT (dN d (Res l)) d a b (i + 1) (i + 1)) (fun m v => by
      have := aDf d b i m v
      have hle : uA d b i m v → uA d b (i + 1) m v := aGt (by omega)
      unfold vT
      rw [← this]
      constructor
      · rintro (h | h)
        · exact .inl (.inl h)
        · exact .inr h
      · rintro ((h | h) | h)
        · exact .inl h
        · exact .inr (hle h)
        · exact .inr h) (fun hnc hbo => hnc (by
      rintro m v w hp ⟨rfl, q, hq, rfl⟩
      rcases hp with (hp | ⟨_, q', hq', he⟩) | hp
      · exact hbo.2 q (by omega) v hp
      · have := zS he
        exact absurd (by rw [this.2, this.1]) (hne q (by omega))
      · exact hp.1))
    rw [← hB] at s2
    simp only [eD, hlt, cond_true, e1, Option.bind_some, e2, cJ (show i < 9223372036854775807 by omega)]
    exact ih _ ⟨hi, s2⟩
  · rintro k i o hi ⟨hil, hAd⟩
    have : i = bZ t a b := by omega
    subst this
    have hlt : decide ((bZ t a b : Int) < (bZ t a b : Int)) = false := decide_eq_false (by omega)
    simp only [eD, hlt, cond_false]
    exact hend o ⟨hAd.1, by have := hAd.2.1; omega, hAd.2.2⟩
  · unfold vT uA
    constructor
    · exact fun h => .inl (.inl h)
    · rintro ((h | ⟨_, q, hq, _⟩) | ⟨_, q, hq, _⟩)
      · exact h
      · omega
      · omega
omit a0 b0 in
theorem aCw {o : List aE} (hG : Good t o d) {must : List (List Int)} (hM : MustIs t must (dN d (Res o))) (hC : ∀ m v, dN d (Res o) m v ↔ vT (dN d (Res l)) d a b (bZ t a b) (bZ t a b) m v) {x : dP} (hA : x.A = d.getD a 0) (hB : x.B = d.getD b 0) :
    eE a (bZ t a b) (mJ t d must) x BIG 0 = some true := by
  have ht := hg.ht
  have hD := hg.dok
  have hlen := hD.len
  have h5 := ht.r5
  have h32 := ht.len32
  have hal : a < t.Slots.length := hlen ▸ ha
  have hbl : b < t.Slots.length := hlen ▸ hb
  have hm := pE ht hal hbl
  have hme := wF ht hal hbl
  have hne := fun q hq => wG ht hal hbl (q := q) hq
  have ra := hD.rng a ha
  have rb := hD.rng b hb
  have hin := lS ht hal hm
  have hil := zX ht
  have hbln : (mJ t d must).length = (lK t).length := by rw [aAu, List.length_map]
  -- the players of the match
  have hsides : (jW d must (bZ t a b) (2 * (a / 2 ^ (bZ t a b + 1))) = x.A ∧ jW d must (bZ t a b) (2 * (a / 2 ^ (bZ t a b + 1)) + 1) = x.B) ∨ (jW d must (bZ t a b) (2 * (a / 2 ^ (bZ t a b + 1))) = x.B ∧ jW d must (bZ t a b) (2 * (a / 2 ^ (bZ t a b + 1)) + 1) = x.A) := by
    by_cases h0 : bZ t a b = 0
    · rw [h0] at hme ⊢
      simp only [jW, if_true, hA, hB]
      have e1 : a = 2 * (a / 2 ^ (0 + 1)) ∨ a = 2 * (a / 2 ^ (0 + 1)) + 1 := by simp; omega
      have e2 : b = 2 * (a / 2 ^ (0 + 1)) ∨ b = 2 * (a / 2 ^ (0 + 1)) + 1 := by rw [hme]; simp; omega
      rcases e1 with e1 | e1 <;> rcases e2 with e2 | e2
      · omega
      · exact .inl ⟨by rw [← e1], by rw [← e2]⟩
      · exact .inr ⟨by rw [← e2], by rw [← e1]⟩
      · omega
    · have hr1 : bZ t a b - 1 < t.Rounds.toNat := by omega
      have hk1 : bZ t a b - 1 + 1 = bZ t a b := by omega
      have ca := (aAb ht hD hM ha hr1 (d.getD a 0)).2 ((hC _ _).2 (.inl (.inr ⟨rfl, bZ t a b - 1, by omega, rfl⟩)))
      have cb := (aAb ht hD hM hb hr1 (d.getD b 0)).2 ((hC _ _).2 (.inr ⟨rfl, bZ t a b - 1, by omega, rfl⟩))
      rw [hk1] at ca cb
      have hn := hne (bZ t a b - 1) (by omega)
      rw [hk1] at hn
      have h1 : a / 2 ^ (bZ t a b + 1) = a / 2 ^ (bZ t a b) / 2 := by rw [Nat.pow_succ, Nat.div_div_eq_div_mul]
      have h2 : b / 2 ^ (bZ t a b + 1) = b / 2 ^ (bZ t a b) / 2 := by rw [Nat.pow_succ, Nat.div_div_eq_div_mul]
      simp only [jW, if_neg h0, hA, hB]
      rw [h1, h2] at hme
      rw [h1]
      generalize a / 2 ^ (bZ t a b) = u at *
      generalize b / 2 ^ (bZ t a b) = w at *
      rcases (show u = 2 * (u / 2) ∨ u = 2 * (u / 2) + 1 by omega) with e1 | e1
      · have e2 : w = 2 * (u / 2) + 1 := by omega
        rw [show 2 * (u / 2) + 1 = w from e2.symm, show 2 * (u / 2) = u from e1.symm]
        exact .inl ⟨ca.1, cb.1⟩
      · have e2 : w = 2 * (u / 2) := by omega
        rw [show 2 * (u / 2) + 1 = u from e1.symm, show 2 * (u / 2) = w from e2.symm]
        exact .inr ⟨cb.1, ca.1⟩
  have hw : w64 ((bZ t a b : Int) + 1) = ((bZ t a b + 1 : Nat) : Int) := cJ (by omega)
  have hu : IntKind.u64.wrap ((bZ t a b + 1 : Nat) : Int) = ((bZ t a b + 1 : Nat) : Int) := kU (by omega) (by omega)
  have hch : chk (decide (0 ≤ ((bZ t a b + 1 : Nat) : Int))) = some () := by unfold chk; rw [decide_eq_true (by omega)]; rfl
  have hmin : min ((bZ t a b + 1 : Nat) : Int).toNat 64 = bZ t a b + 1 := by omega
  refine mP (S := Unit) (fun k i _ => eE a (bZ t a b) (mJ t d must) x k i) (lK t).length (fun o => o = some true) (fun i _ => ∀ y ∈ (lK t).take i, y ≠ (bZ t a b, a / 2 ^ (bZ t a b + 1))) ?_ ?_ BIG 0 () (cZ (by omega)) (by simp)
  · rintro k i _ hi hI ih
    have hib : i < (mJ t d must).length := by omega
    have hlt : decide ((i : Int) < ((mJ t d must).length : Int)) = true := decide_eq_true (by omega)
    have hbt : (mJ t d must)[i] = aAt d must (lK t)[i] := by simp only [aAu, List.getElem_map]
    have ht1 : (lK t).take (i + 1) = (lK t).take i ++ [(lK t)[i]] := List.take_succ_eq_append_getElem hi
    simp only [eE, hlt, cond_true, cM hib, hbt, Option.bind_some, hw, hu, hch, hmin, mS, cJ (show i < 9223372036854775807 by omega)]
    by_cases hc : (lK t)[i] = (bZ t a b, a / 2 ^ (bZ t a b + 1))
    · rw [hc]
      simp only [aAt, decide_true, cond_true, Option.bind_some]
      rcases hsides with ⟨h1, h2⟩ | ⟨h1, h2⟩
      · simp only [h1, h2, decide_true, cond_true, Option.bind_some, oI]
      · simp only [h1, h2]
        cases decide (x.B = x.A) <;> cases decide (x.A = x.B) <;> simp [oI]
    · have hbf : (bif decide ((aAt d must (lK t)[i]).Round = (bZ t a b : Int)) then (some (decide ((aAt d must (lK t)[i]).Place = ((a / 2 ^ (bZ t a b + 1) : Nat) : Int)))) else (some false)) = some false := by
        rw [iG, Option.some.injEq, Bool.and_eq_false_iff]
        by_cases h1 : (lK t)[i].1 = bZ t a b
        · exact .inr (decide_eq_false fun h2 => hc (Prod.ext h1 (Int.ofNat_inj.1 h2)))
        · exact .inl (decide_eq_false fun h2 => h1 (Int.ofNat_inj.1 h2))
      simp only [hbf, Option.bind_some, cond_false]
      refine ih () fun y hy => ?_
      rw [ht1, List.mem_append, List.mem_singleton] at hy
      rcases hy with hy | rfl
      · exact hI y hy
      · exact hc
  · rintro k i _ hi hI
    have hta : (lK t).take i = lK t := List.take_of_length_le (by omega)
    rw [hta] at hI
    exact absurd rfl (hI (bZ t a b, a / 2 ^ (bZ t a b + 1)) (aAd.2 ⟨hm, hin⟩))
omit a0 b0 in
theorem aKw {must : List (List Int)} (hM : MustIs t must (dN d (Res l))) {x : dP} (hA : x.A = d.getD a 0) (hB : x.B = d.getD b 0) {r e : Int} (hre : (r, e) = if fP d must a t < bZ t a b ∨ fP d must b t < bZ t a b then (0, 3) else ((bZ t a b : Int), 0)) :
    ∀ o, aAl t d o (vT (dN d (Res l)) d a b (bZ t a b) (bZ t a b)) (¬ (CW (dN d (Res l)) d a (bZ t a b) ∧ CW (dN d (Res l)) d b (bZ t a b))) 60 → gR r e a (bZ t a b) t x o = some true := by
  rintro o ⟨v1, v2, v3⟩
  have ht := hg.ht
  have hD := hg.dok
  have hlen := hD.len
  have hm := pE ht (show a < t.Slots.length by omega) (show b < t.Slots.length by omega)
  have cwa := aGe ht hD hM ha (n := bZ t a b) (by omega)
  have cwb := aGe ht hD hM hb (n := bZ t a b) (by omega)
  unfold gR oQ mM
  rcases v3 with ⟨hG, hC⟩ | ⟨hS, hbad⟩
  · have c1 : CW (dN d (Res l)) d a (bZ t a b) := fun q hq v hv => hG.fn _ _ _ ((hC _ _).2 (.inl (.inl hv))) ((hC _ _).2 (.inl (.inr ⟨rfl, q, hq, rfl⟩)))
    have c2 : CW (dN d (Res l)) d b (bZ t a b) := fun q hq v hv => hG.fn _ _ _ ((hC _ _).2 (.inl (.inl hv))) ((hC _ _).2 (.inr ⟨rfl, q, hq, rfl⟩))
    have c3 := cwa.2 c1
    have c4 := cwb.2 c2
    rw [if_neg (by omega)] at hre
    simp only [Prod.mk.injEq] at hre
    obtain ⟨rfl, rfl⟩ := hre
    obtain ⟨must', hd', hM'⟩ := nJ hG
    have hL := aCw hg ha hb hab hG hM' hC hA hB
    have hBt := aAm hG hd' hM'
    generalize eE a (bZ t a b) (mJ t d must') x BIG 0 = X at hL
    rw [mI hG, hBt]
    simp only [decide_true, Bool.not_true, cond_false, Option.bind_some]
    exact aCw hg ha hb hab hG hM' hC hA hB
  · have hlt : fP d must a t < bZ t a b ∨ fP d must b t < bZ t a b := Classical.byContradiction fun h => hbad ⟨cwa.1 (by omega), cwb.1 (by omega)⟩
    rw [if_pos hlt] at hre
    simp only [Prod.mk.injEq] at hre
    obtain ⟨rfl, rfl⟩ := hre
    rw [nI hS]
    simp [oI]
end
theorem aHk (t : aO) (a b : Nat) : bZ t a b = bZ t b a := by
  unfold bZ
  congr 1
  funext r
  rw [Bool.eq_iff_iff, decide_eq_true_eq, decide_eq_true_eq]
  exact eq_comm
theorem aHl (t : aO) (d : List Int) (must : List (List Int)) (x y : Int) : oS t d must x y = oS t d must y x := by
  unfold oS
  rw [aHk t (dL d x).toNat (dL d y).toNat]
  exact ite_congr (propext ⟨fun h => ⟨h.2.1, h.1, Ne.symm h.2.2⟩, fun h => ⟨h.2.1, h.1, Ne.symm h.2.2⟩⟩) (fun _ => ite_congr (propext or_comm) (fun _ => rfl) fun _ => ite_congr (propext or_comm) (fun _ => rfl) fun _ => rfl) fun _ => rfl
theorem aFt (a b e : Int) (W X : Option Bool) (hW : W = some true) (h : (a < 0 ∨ b < 0) → e = 3) (hX : ¬ (a < 0 ∨ b < 0) → X = some true) :
    ((bif decide (a < 0) then (some true) else (some (decide (b < 0)))).bind fun b21 => bif b21 then ((bif decide (e = 3) then (W.bind fun r22 => some r22) else (some false)).bind fun b23 => some b23) else X) = some true := by
  subst hW
  rw [lC, Option.bind_some]
  by_cases hc : a < 0 ∨ b < 0
  · have : (decide (a < 0) || decide (b < 0)) = true := by simpa using hc
    rw [this, h hc]; rfl
  · have : (decide (a < 0) || decide (b < 0)) = false := by simpa using hc
    rw [this, hX hc]; rfl
section
variable {t : aO} {l : List aE} {d : List Int} (hg : Good t l d) {must : List (List Int)} (hM : MustIs t must (dN d (Res l))) {x : dP} (hA : wi x.A 0 999 = true) (hB : wi x.B 0 999 = true) (hne : x.A ≠ x.B) (h50 : l.length ≤ 50)
include hg hM hA hB hne h50
theorem aHm {r e : Int} (hre : (r, e) = oS t d must x.A x.B) : fI l r e (dL d x.A) (dL d x.B) t x = some true := by
  have ht := hg.ht
  have hD := hg.dok
  have hlen := hD.len
  have h5 := ht.r5
  have hA' := gA.1 hA
  have hB' := gA.1 hB
  unfold oS at hre
  rw [if_pos ⟨hA, hB, hne⟩] at hre
  unfold fI
  refine aFt _ _ _ _ _ oI (fun hn => ?_) fun hn => ?_
  · rw [if_pos hn] at hre
    exact (Prod.mk.inj hre).2
  · rw [if_neg hn] at hre
    rcases eY d x.A with ⟨h1, _⟩ | ⟨a, h1, ha, ea⟩
    · omega
    rcases eY d x.B with ⟨h2, _⟩ | ⟨b, h2, hb, eb⟩
    · omega
    rw [h1, h2] at hre ⊢
    rw [Int.toNat_natCast, Int.toNat_natCast] at hre
    have hab : a ≠ b := fun h => hne (by rw [← ea, ← eb, h])
    have hal : a < t.Slots.length := by omega
    have hbl : b < t.Slots.length := by omega
    have hm := pE ht hal hbl
    have hme := wF ht hal hbl
    have hmn := fun q hq => wG ht hal hbl (q := q) hq
    have hLoop := aIz hg ha hb (by omega) (by omega) hab (x := x) ea.symm eb.symm r e h50 (aKw hg ha hb hab hM ea.symm eb.symm hre)
    have hsh : ∀ (i k : Nat), i < 6 → eC l r e a b t x (k + 1) i = bif !decide (a / 2 ^ (i + 1) = b / 2 ^ (i + 1)) then eC l r e a b t x k ((i + 1 : Nat) : Int) else gQ l r e a b i t x := by
      intro i k hi
      have hw : w64 ((i : Int) + 1) = ((i + 1 : Nat) : Int) := cJ (by omega)
      have hu : IntKind.u64.wrap ((i + 1 : Nat) : Int) = ((i + 1 : Nat) : Int) := kU (by omega) (by omega)
      have hch : chk (decide (0 ≤ ((i + 1 : Nat) : Int))) = some () := by unfold chk; rw [decide_eq_true (by omega)]; rfl
      have hmin : min ((i + 1 : Nat) : Int).toNat 64 = i + 1 := by omega
      have hdp : decide (((a / 2 ^ (i + 1) : Nat) : Int) = ((b / 2 ^ (i + 1) : Nat) : Int)) = decide (a / 2 ^ (i + 1) = b / 2 ^ (i + 1)) := by rw [Bool.eq_iff_iff]; simp only [decide_eq_true_eq]; omega
      simp only [eC, hw, hu, hch, hmin, mS, Option.bind_some, hdp]
    have hK2 : gQ l r e a b (bZ t a b) t x = some true := by
      unfold gQ
      rw [iT (by simp; omega), Option.bind_some, List.nil_append]
      exact hLoop
    have key : ∀ n i k, i + n = bZ t a b → n < k → eC l r e a b t x k i = some true := by
      intro n
      induction n with
      | zero =>
        intro i k hi hk
        have : i = bZ t a b := by omega
        subst this
        cases k with
        | zero => omega
        | succ k => rw [hsh _ k (by omega), decide_eq_true hme]; exact hK2
      | succ n ih =>
        intro i k hi hk
        cases k with
        | zero => omega
        | succ k =>
          rw [hsh _ k (by omega), decide_eq_false (hmn i (by omega))]
          exact ih (i + 1) k (by omega) (by omega)
    exact key (bZ t a b) 0 BIG (by omega) (cZ (by omega))
theorem aIy {r e : Int} (hre : (r, e) = oS t d must x.A x.B) : cS l r e d t x BIG (-1) (-1) 0 = some true := by
  have hD := hg.dok
  have hlen := hD.len
  have h32 := hg.ht.len32
  have hA' := gA.1 hA
  have hB' := gA.1 hB
  have hK := aHm hg hM hA hB hne h50 hre
  have at_iff : ∀ n : Int, n ≠ -1 → ∀ i, i < d.length → (d.getD i 0 = n ↔ dL d n = (i : Int)) := by
    intro n hn i hi
    constructor
    · rintro rfl; exact aLh hD hi hn
    · intro h
      rcases eY d n with ⟨h1, _⟩ | ⟨c, h1, hc, ec⟩
      · omega
      · have : c = i := by omega
        subst this; exact ec
  have := fJ (S := Int × Int) (fun k i s => cS l r e d t x k s.1 s.2 i) d.length (fun i s => fI l r e (if (i : Int) ≤ dL d x.A then dL d x.A else s.1) (if (i : Int) ≤ dL d x.B then dL d x.B else s.2) t x) (fun i s => (dL d x.A < (i : Int) → s.1 = dL d x.A) ∧ (dL d x.B < (i : Int) → s.2 = dL d x.B)) ?_ ?_ BIG (-1, -1) (cZ (by omega)) ?_
  · rw [this]
    rcases eY d x.A with ⟨h1, _⟩ | ⟨a, h1, ha, ea⟩ <;> rcases eY d x.B with ⟨h2, _⟩ | ⟨b, h2, hb, eb⟩ <;> rw [h1, h2] at hK ⊢ <;> simpa using hK
  · rintro k i ⟨u, w⟩ hi ⟨hu, hw⟩ ih
    have hlt : decide ((i : Int) < (d.length : Int)) = true := decide_eq_true (by omega)
    have ia := at_iff x.A (by omega) i hi
    have ib := at_iff x.B (by omega) i hi
    simp only at hu hw
    simp only [cS, hlt, cond_true, cM hi, Option.bind_some, cJ (show i < 9223372036854775807 by omega)]
    rw [← bV hi 0]
    have hnab : ¬ (d.getD i 0 = x.A ∧ d.getD i 0 = x.B) := fun h => hne (h.1.symm.trans h.2)
    have step : ∀ u' w' : Int, (if d.getD i 0 = x.A then u' = i else u' = u) → (if d.getD i 0 = x.B then w' = i else w' = w) → cS l r e d t x k u' w' ((i + 1 : Nat) : Int) = fI l r e (if (i : Int) ≤ dL d x.A then dL d x.A else u) (if (i : Int) ≤ dL d x.B then dL d x.B else w) t x := by
      intro u' w' h1 h2
      refine (ih (u', w') ⟨fun h => ?_, fun h => ?_⟩).trans ?_
      · by_cases c : d.getD i 0 = x.A
        · rw [if_pos c] at h1; simp only [h1]; exact (ia.1 c).symm
        · rw [if_neg c] at h1; simp only [h1]; exact hu (by have := mt ia.2 c; omega)
      · by_cases c : d.getD i 0 = x.B
        · rw [if_pos c] at h2; simp only [h2]; exact (ib.1 c).symm
        · rw [if_neg c] at h2; simp only [h2]; exact hw (by have := mt ib.2 c; omega)
      · congr 1
        · by_cases c : d.getD i 0 = x.A
          · have e := ia.1 c
            rw [if_pos c] at h1
            rw [e, if_neg (by omega), if_pos (by omega)]; exact h1
          · have e := mt ia.2 c
            rw [if_neg c] at h1
            by_cases c2 : (i : Int) ≤ dL d x.A
            · rw [if_pos c2, if_pos (by omega)]
            · rw [if_neg c2, if_neg (by omega)]; exact h1
        · by_cases c : d.getD i 0 = x.B
          · have e := ib.1 c
            rw [if_pos c] at h2
            rw [e, if_neg (by omega), if_pos (by omega)]; exact h2
          · have e := mt ib.2 c
            rw [if_neg c] at h2
            by_cases c2 : (i : Int) ≤ dL d x.B
            · rw [if_pos c2, if_pos (by omega)]
            · rw [if_neg c2, if_neg (by omega)]; exact h2
    by_cases cA : d.getD i 0 = x.A
    · have cB : ¬ d.getD i 0 = x.B := fun h => hnab ⟨cA, h⟩
      rw [decide_eq_true cA, decide_eq_false cB, cond_true, cond_false]
      exact step _ _ (by rw [if_pos cA]) (by rw [if_neg cB])
    · rw [decide_eq_false cA, cond_false]
      by_cases cB : d.getD i 0 = x.B
      · rw [decide_eq_true cB, cond_true]
        exact step _ _ (by rw [if_neg cA]) (by rw [if_pos cB])
      · rw [decide_eq_false cB, cond_false]
        exact step _ _ (by rw [if_neg cA]) (by rw [if_neg cB])
  · rintro k ⟨u, w⟩ ⟨hu, hw⟩
    have hlt : decide ((d.length : Int) < (d.length : Int)) = false := decide_eq_false (by omega)
    simp only [cS, hlt, cond_false]
    have ba : dL d x.A < (d.length : Int) := by rcases eY d x.A with ⟨h1, _⟩ | ⟨a, h1, ha, _⟩ <;> omega
    have bb : dL d x.B < (d.length : Int) := by rcases eY d x.B with ⟨h1, _⟩ | ⟨a, h1, ha, _⟩ <;> omega
    rw [if_neg (by omega), if_neg (by omega)]
  · refine ⟨fun h => ?_, fun h => ?_⟩
    · rcases eY d x.A with ⟨h1, _⟩ | ⟨a, h1, ha, _⟩
      · exact h1.symm
      · have h' : dL d _ < (0 : Int) := h
        omega
    · rcases eY d x.B with ⟨h1, _⟩ | ⟨a, h1, ha, _⟩
      · exact h1.symm
      · have h' : dL d _ < (0 : Int) := h
        omega
end
theorem aEo (A B : Option (Int × Int)) (C : Option (List Int × Bool)) (W : Option Bool) (F : Int → Int → List Int → Option Bool) {r e : Int} {d : List Int} (hA : A = some (r, e)) (hB : B = some (r, e)) (he : e = 0 ∨ e = 3) (hC : C = some (d, true)) (hF : F r e d = some true) :
    (A.bind fun r11 => B.bind fun r12 =>
    (bif !decide (r11.2 = r12.2) then (some true) else (some (!decide (r11.1 = r12.1)))).bind fun b13 =>
    (bif b13 then (some true) else ((bif !decide (r11.2 = 0) then (some (!decide (r11.2 = 3))) else (some false)).bind fun b14 => some b14)).bind fun b15 =>
    bif b15 then (some false)
    else (C.bind fun r16 => bif !r16.2 then (W.bind fun r17 => some r17) else (F r11.1 r11.2 r16.1))) = some true := by
  subst hA; subst hB; subst hC
  rcases he with rfl | rfl <;> simp [hF]
theorem sC (t : aO) (l : List aE) (x : dP) (ht : aCz t) (hl : okL xY l) (hx : sV x) : kJ t l x = some true := by
  unfold kJ
  rcases aFx t l with hr | ⟨d, hg, hr, h60⟩
  · simp only [hr, Option.bind_some, Bool.not_false, cond_true, oI]
  · rw [hr, Option.bind_some, Bool.not_true, cond_false, Option.bind_some, lC, Option.bind_some, lC, Option.bind_some, lC, Option.bind_some, lC, Option.bind_some, lC, Option.bind_some]
    cases hb : (decide (50 < (l.length : Int)) || decide (x.A < 0) || decide (x.B < 0) || decide (999 < x.A) || decide (999 < x.B) || decide (x.A = x.B)) with
    | true => rw [cond_true, oI]; rfl
    | false =>
      rw [cond_false]
      simp only [Bool.or_eq_false_iff, decide_eq_false_iff_not] at hb
      obtain ⟨⟨⟨⟨⟨h1, h2⟩, h3⟩, h4⟩, h5⟩, h6⟩ := hb
      obtain ⟨must, hd, hM⟩ := nJ hg
      have hA : wi x.A 0 999 = true := gA.2 ⟨by omega, by omega⟩
      have hB : wi x.B 0 999 = true := gA.2 ⟨by omega, by omega⟩
      have hm1 := xB hg hd hM x.A x.B
      have hm2 := xB hg hd hM x.B x.A
      rw [aHl t d must x.B x.A] at hm2
      have he : (oS t d must x.A x.B).2 = 0 ∨ (oS t d must x.A x.B).2 = 3 := by
        unfold oS
        rw [if_pos ⟨hA, hB, h6⟩]
        split
        · exact .inr rfl
        · split
          · exact .inr rfl
          · exact .inl rfl
      have hF := aIy hg hM hA hB h6 (by omega) (r := (oS t d must x.A x.B).1) (e := (oS t d must x.A x.B).2) rfl
      exact aEo _ _ _ _ (fun r e dd => cS l r e dd t x BIG (-1) (-1) 0) hm1 hm2 he (aDp hg) hF
end Go.Am
