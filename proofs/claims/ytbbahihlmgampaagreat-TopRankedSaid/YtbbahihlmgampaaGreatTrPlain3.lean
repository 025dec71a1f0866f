/- TopRanked: what the notices make of a field. -/
import Derived.Test.YtbbahihlmgampaaGreatTrPlain1
namespace Go.Am
def ntL (rk : Int → Int) : Nat → List Int → List aN
 | _, [] => []
 | i, p :: t => ⟨(i : Int), 0, 1, p, rk p⟩ :: ntL rk (i + 1) t
theorem aIr (rk : Int → Int) : ∀ (ps : List Int) (i : Nat), (ntL rk i ps).length = ps.length
 | [], _ => rfl
 | _ :: t, i => by simp [ntL, aIr rk t (i + 1)]
theorem aLt (rk : Int → Int) (p : Int) : ∀ (ps : List Int) (i : Nat), ntL rk i (ps ++ [p]) = ntL rk i ps ++ [⟨((i + ps.length : Nat) : Int), 0, 1, p, rk p⟩]
 | [], i => by simp [ntL]
 | a :: t, i => by
  rw [List.cons_append, ntL, aLt rk p t (i + 1), ntL, List.cons_append, List.length_cons, show i + 1 + t.length = i + (t.length + 1) by omega]
theorem aAy (rk : Int → Int) {x : aN} : ∀ (ps : List Int) (i : Nat), x ∈ ntL rk i ps → x.Hour = 0 ∧ x.Kind = 1 ∧ x.Player ∈ ps ∧ x.Rank = rk x.Player ∧ (i : Int) ≤ x.Id ∧ x.Id < ((i + ps.length : Nat) : Int)
 | [], _, h => by simp [ntL] at h
 | a :: t, i, h => by
  rw [ntL] at h
  rcases List.mem_cons.1 h with rfl | h
  ·refine ⟨rfl, rfl, List.mem_cons_self, rfl, Int.le_refl _, ?_⟩
   simp only [List.length_cons]; omega
  ·obtain ⟨h1, h2, h3, h4, h5, h6⟩ := aAy rk t (i + 1) h
   refine ⟨h1, h2, List.mem_cons_of_mem _ h3, h4, by omega, ?_⟩
   simp only [List.length_cons]; omega
theorem aQr (rk : Int → Int) : ∀ (ps : List Int) (i : Nat), ∀ x ∈ ntL rk i ps, ∀ y ∈ ntL rk i ps, x.Id = y.Id → x = y
 | [], _, x, h, _, _, _ => by simp [ntL] at h
 | a :: t, i, x, hx, y, hy, he => by
  rw [ntL] at hx hy
  rcases List.mem_cons.1 hx with rfl | hx <;> rcases List.mem_cons.1 hy with rfl | hy
  ·rfl
  ·have := (aAy rk t (i + 1) hy).2.2.2.2.1
   have e : (i : Int) = y.Id := he
   omega
  ·have := (aAy rk t (i + 1) hx).2.2.2.2.1
   have e : x.Id = (i : Int) := he
   omega
  ·exact aQr rk t (i + 1) x hx y hy he
theorem aHj (rk : Int → Int) : ∀ (ps : List Int) (i : Nat), (ntL rk i ps).Pairwise fun x y => mB x < mB y
 | [], _ => .nil
 | a :: t, i => by
  rw [ntL]
  refine List.pairwise_cons.2 ⟨fun y hy => ?_, aHj rk t (i + 1)⟩
  obtain ⟨h1, _, _, _, h5, _⟩ := aAy rk t (i + 1) hy
  unfold mB
  rw [h1]
  simp only
  omega
theorem aVo {f : bE} {rk : Int → Int} {ps : List Int} (hf : pI f = true) (hl : ps.length ≤ 10) (hp : ∀ p ∈ ps, 0 ≤ p ∧ p ≤ 999) (hr : ∀ p, 0 ≤ rk p ∧ rk p ≤ 9999) : VL f (ntL rk 0 ps) := by
 refine ⟨hf, by rw [aIr]; omega, fun x hx => ?_, aQr rk ps 0⟩
 obtain ⟨h1, h2, h3, h4, h5, h6⟩ := aAy rk ps 0 hx
 have := hp _ h3
 have := hr x.Player
 unfold pC
 rw [h1, h2, h4, tS.2 (show 0 ≤ x.Id ∧ x.Id ≤ 999 by omega), tS.2 (hp _ h3), tS.2 this]
 rfl
theorem aQs {f : bE} {rk : Int → Int} {ps : List Int} (h : VL f (ntL rk 0 ps)) : qU (ntL rk 0 ps) = ntL rk 0 ps :=
 oE (aCu (fun x hx => aOq (h.nt x hx)) h.id) (aHj rk ps 0) fun x => yE x
structure xJ (f : bE) (rk : Int → Int) (dn : List Int) (L : aO) : Prop where
 fd : L.Field = f
 wl : L.wilds = []
 fz : L.frozen = false
 mr : L.more = 0
 en : L.entered = (dn.length : Int)
 yes : ∀ j (h : j < dn.length), pl L dn[j] = ⟨true, false, rk dn[j], (j : Int) + 1, false, false, false, false⟩
 no : ∀ m, m ∉ dn → pl L m = zP
theorem aRs (f : bE) (rk : Int → Int) : xJ f rk [] (mR f) := ⟨rfl, rfl, rfl, rfl, rfl, fun j h => by simp at h, fun m _ => rfl⟩
theorem aRt {f : bE} {rk : Int → Int} {dn : List Int} {L : aO} (h : xJ f rk dn L) (hf : pI f = true) {p : Int} (hp : p ∉ dn) (hl : dn.length ≤ 60) (i : Int) : xJ f rk (dn ++ [p]) (yC L ⟨i, 0, 1, p, rk p⟩) := by
 have hc : 0 ≤ f.Close ∧ f.Close ≤ f.Freeze := by
  unfold pI at hf
  simp only [Bool.and_eq_true, tS] at hf
  omega
 have e0 := h.no p hp
 have e1 : yC L ⟨i, 0, 1, p, rk p⟩ = aO.mk f (dS p (aA.mk true false (rk p) ((dn.length : Int) + 1) false false false false) L.players) [] false L.first L.late 0 ((dn.length : Int) + 1) := by
  have e2 : iZ L ⟨i, 0, 1, p, rk p⟩ = aO.mk f (dS p (aA.mk true false (rk p) ((dn.length : Int) + 1) false false false false) L.players) [] false L.first L.late 0 ((dn.length : Int) + 1) := by
   unfold iZ
   simp only [e0, h.fd, h.wl, h.fz, h.mr, h.en, show decide ((1 : Int) = 1) = true from rfl, Bool.true_or, cond_true, decide_eq_true hc.1, Bool.not_false, Bool.and_self, show decide ((1 : Int) = 2) = false from rfl]
   rfl
  unfold yC
  rw [h.fd, decide_eq_false (show ¬ f.Freeze < 0 by omega), cond_false, e2]
  rfl
 rw [e1]
 have key : ∀ m, pl (aO.mk f (dS p (aA.mk true false (rk p) ((dn.length : Int) + 1) false false false false) L.players) [] false L.first L.late 0 ((dn.length : Int) + 1)) m = bif decide (m = p) then aA.mk true false (rk p) ((dn.length : Int) + 1) false false false false else pl L m := fun m => zR m p _ zP L.players
 refine ⟨rfl, rfl, rfl, rfl, by simp, fun j hj => ?_, fun m hm => ?_⟩
 ·rw [key]
  rw [List.length_append, List.length_singleton] at hj
  by_cases hlt : j < dn.length
  ·rw [List.getElem_append_left hlt, decide_eq_false (fun e => hp (by rw [← e]; exact List.getElem_mem hlt)), cond_false]
   exact h.yes j hlt
  ·obtain rfl : j = dn.length := by omega
   rw [List.getElem_append_right (Nat.le_refl _)]
   simp
 ·rw [key]
  simp only [List.mem_append, List.mem_singleton, not_or] at hm
  rw [decide_eq_false hm.2, cond_false]
  exact h.no m hm.1
theorem aNt {f : bE} {rk : Int → Int} (hf : pI f = true) {hour : Int} (hh : 0 ≤ hour) : ∀ (t dn : List Int) (L : aO), xJ f rk dn L → (dn ++ t).Nodup → (dn ++ t).length ≤ 60 → xJ f rk (dn ++ t) (vB hour L (ntL rk dn.length t))
 | [], dn, L, h, _, _ => by rw [List.append_nil]; exact h
 | p :: t, dn, L, h, hn, hl => by
  rw [ntL, vB, show decide (hour < (⟨(dn.length : Int), 0, 1, p, rk p⟩ : aN).Hour) = false from decide_eq_false (show ¬ hour < 0 by omega), cond_false]
  have hp : p ∉ dn := fun hm => (List.nodup_append.1 hn).2.2 p hm p List.mem_cons_self rfl
  have e : dn ++ p :: t = (dn ++ [p]) ++ t := by simp
  have hl2 : dn.length ≤ 60 := by rw [List.length_append] at hl; omega
  have h1 := aRt h hf hp hl2 (dn.length : Int)
  have h2 := aNt hf hh t (dn ++ [p]) _ h1 (by rw [← e]; exact hn) (by rw [← e]; exact hl)
  rw [e]
  rw [List.length_append, List.length_singleton] at h2
  exact h2
theorem zN {f : bE} {rk : Int → Int} {ps : List Int} (h : VL f (ntL rk 0 ps)) (hn : ps.Nodup) (hl : ps.length ≤ 60) : xJ f rk ps (cZ f (ntL rk 0 ps) f.Close) := by
 have hf := h.fd
 have hc : 0 ≤ f.Close ∧ f.Close ≤ f.Freeze := by
  have hf2 := hf
  unfold pI at hf2
  simp only [Bool.and_eq_true, tS] at hf2
  omega
 have h1 : xJ f rk ps (vB f.Close (mR f) (ntL rk 0 ps)) := by simpa using aNt hf hc.1 ps [] (mR f) (aRs f rk) (by simpa using hn) (by simpa using hl)
 unfold cZ aDg
 rw [aQs h, h1.fd, decide_eq_false (show ¬ f.Freeze < f.Close by omega), cond_false]
 exact h1
end Go.Am
