/- The plain law PurseCents. -/
import Derived.Test.YtoflekecpkjghaaPpPlain17
import Derived.Test.YtoflekecpkjghaaPuSh
namespace Go.Am

theorem aHj {b : aV} (h : SumIn b 1000) (hb : Bal b) : jV b = some true := by
  obtain ⟨a1, a2, a3, a4, a5, a6, a7, a8⟩ := h
  unfold Bal at hb
  unfold jV
  rw [bR (n := b.Gross + b.Daily) (by omega) (by omega), bR (n := b.Gross + b.Daily + b.Debt) (by omega) (by omega), bR (n := b.Tax + b.Fines) (by omega) (by omega), bR (n := b.Tax + b.Fines + b.Used) (by omega) (by omega), bR (n := b.Tax + b.Fines + b.Used + b.Rest) (by omega) (by omega), decide_eq_true hb, decide_eq_true (aZe a1.1 a2.1 a3.1 a4.1 a5.1 a6.1 a7.1 a8.1)]
  rfl
theorem yI (p : aQ) (_ : aKh p) : nK p = some true := by
  unfold nK
  rcases aVz p with h | ⟨h, hn, d, hg⟩
  · rw [h, Option.bind_some, Bool.not_false, cond_true, aGv, Option.bind_some]
  · have hz := hn.sz
    have ht := wU hg.teams
    have hl : (mX p d).length ≤ 80 := by
      have := aPw hg
      have := hn.teams
      unfold mX; rw [List.length_map]; omega
    have hsum := aJi hg
    have hbal : ∀ b ∈ mX p d, Bal b := fun b hb => by
      obtain ⟨n, _, rfl, _⟩ := aQm hg b hb
      exact aUp hg n
    have htot : SumIn (aAh p d) 1000 := (aLb _ _ 0 (aJc (-1)) hsum).mono (by omega)
    have htb : Bal (aAh p d) := aNl _ _ (by unfold Bal; simp) hbal
    rw [h, Option.bind_some, Bool.not_true, cond_false, aTn hz hg, Option.bind_some, aTq hz hg, Option.bind_some, decide_eq_true rfl, Bool.not_true, cond_false, Option.bind_some, cond_false, aHj htot htb, Option.bind_some, Option.bind_some, Bool.not_true, cond_false, Option.bind_some, decide_eq_false (show ¬ 200 < (((mX p d).length : Nat) : Int) by omega), cond_false]
    have hpw := aNm p d
    have hof : ∀ b ∈ mX p d, mM p b.Person = true ∧ 0 ≤ b.Person ∧ (0 < b.Debt → b.Used + b.Rest = 0) := fun b hb => by
      obtain ⟨n, h1, rfl, h3⟩ := aQm hg b hb
      rw [h3]
      exact ⟨h1, (aGc ht h1).1, aSk hg n⟩
    dsimp only
    have htv : aAh p d = (mX p d).foldl vA ⟨-1, 0, 0, 0, 0, 0, 0, 0, 0⟩ := rfl
    generalize aAh p d = T at htv ⊢
    generalize mX p d = B at hl hsum hbal hpw hof htv ⊢
    have main := pS (S := Int × aV) (fun k i s => fZ B p T k s.1 i s.2) B aJp (fun s => lM T s.2) (-1, ⟨-1, 0, 0, 0, 0, 0, 0, 0, 0⟩) ?_ ?_ BIG (cH (by omega))
    · dsimp only at main
      rw [main, aIk, htv]
      unfold lM
      rw [decide_eq_true rfl, cond_true, aGv]; rfl
    · intro k i hi s hs
      have hlt : decide ((i : Int) < (B.length : Int)) = true := decide_eq_true (by omega)
      have hb := List.getElem_mem hi
      obtain ⟨o1, o2, o3⟩ := hof _ hb
      have hin : SumIn s.2 1000 := by
        rw [hs, aIk]
        refine (aLb (B.take i) _ 0 (aJc (-1)) fun b hb => hsum b (List.mem_of_mem_take hb)).mono ?_
        rw [List.length_take]; omega
      have hlast : s.1 < B[i].Person := by
        rw [hs]
        rcases aNn (B.take i) (-1, ⟨-1, 0, 0, 0, 0, 0, 0, 0, 0⟩) with e | ⟨c, hc, e⟩
        · rw [e]; show (-1 : Int) < _; omega
        · rw [e]
          obtain ⟨j, hj, rfl⟩ := List.mem_take_iff_getElem.1 hc
          exact List.pairwise_iff_getElem.1 hpw j i (by omega) hi (by omega)
      have hdr : (bif decide (0 < B[i].Debt) then some (decide (0 < (w64 (B[i].Used + B[i].Rest)))) else some false) = some false := by
        by_cases hd : 0 < B[i].Debt
        · have := o3 hd
          rw [decide_eq_true hd, cond_true, this]; rfl
        · rw [decide_eq_false hd]; rfl
      simp only [fZ, hlt, cond_true, bN hi, Option.bind_some, aHj ((hsum _ hb).mono (by omega)) (hbal _ hb), Bool.not_true, cond_false, hdr, aAp ht _ hz.teams, o1, decide_eq_false (show ¬ B[i].Person ≤ s.1 by omega), aPd hin (hsum _ hb), bJ (show i < 9223372036854775807 by omega)]
      rfl
    · intro k s
      have hlt : decide ((B.length : Int) < (B.length : Int)) = false := decide_eq_false (by omega)
      simp only [fZ, hlt, cond_false]
end Go.Am
