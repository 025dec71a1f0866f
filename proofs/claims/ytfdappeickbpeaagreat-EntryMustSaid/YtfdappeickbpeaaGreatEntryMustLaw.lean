/- The theorem of those who must quit, plainly. -/
import Derived.Test.YtfdappeickbpeaaGreatEnPlain45
namespace Go.Am
def mxI (l : List aG) (a : Int) : Int := l.foldl (fun a y => max a (y.Id + 1)) a
theorem aOy : ∀ (l : List aG) (a M : Int), a ≤ M → (∀ y ∈ l, y.Id + 1 ≤ M) → mxI l a ≤ M
 | [], _, _, h, _ => h
 | x :: l, a, M, h, h2 => aOy l (max a (x.Id + 1)) M (by have := h2 x (by simp); omega) fun y hy => h2 y (by simp [hy])
theorem aJi : ∀ (l : List aG) (a : Int), a ≤ mxI l a ∧ ∀ y ∈ l, y.Id + 1 ≤ mxI l a
 | [], a => ⟨Int.le_refl _, fun y hy => by simp at hy⟩
 | x :: l, a => by
  have ih := aJi l (max a (x.Id + 1))
  have e : mxI (x :: l) a = mxI l (max a (x.Id + 1)) := rfl
  rw [e]
  refine ⟨by omega, fun y hy => ?_⟩
  rcases List.mem_cons.1 hy with rfl | hy
  ·omega
  ·exact ih.2 y hy
def tD (l : List aG) (hour p : Int) : aG := aG.mk (mxI l 0) hour 4 p 0
theorem aRv (l : List aG) (hl : l.length ≤ 100) (hb : ∀ y ∈ l, bN y) (hour p : Int) : iX l hour p = some (l ++ [tD l hour p]) := by
 have key := kB (S := Int) (fun k j a => iG l hour p k a j) l.length (fun j a => some (l ++ [aG.mk (mxI (l.drop j) a) hour 4 p 0])) (fun _ _ => True) (fun k j a hj _ ih => ?_) (fun k a _ => ?_) BIG 0 (dC (by omega)) trivial
 ·unfold iX
  rw [key]; rfl
 ·have hbj := hb l[j] (List.getElem_mem hj)
  unfold bN at hbj
  simp only [iG, show decide ((j : Int) < (l.length : Int)) = true from decide_eq_true (by omega), cond_true, cV hj, Option.bind_some, bU (show j < 9223372036854775807 by omega)]
  rw [cR (by omega) (by omega), ih _ trivial, List.drop_eq_getElem_cons hj]; rfl
 ·simp only [iG, show decide ((l.length : Int) < (l.length : Int)) = false from decide_eq_false (by omega), cond_false]
  unfold qP
  rw [eN (by simp; omega), Option.bind_some, List.nil_append, eN (by simp; omega), Option.bind_some, List.drop_length]; rfl
structure MI (f : aP) (hour : Int) (now : List aG) (i : Nat) : Prop where
 v : VL f now
 len : now.length ≤ 12 + i
 late : ∀ y ∈ now, y.Hour ≤ hour ∧ y.Id ≤ 900 + (i : Int)
theorem MI.more {f : aP} {hour : Int} {now : List aG} {i : Nat} (h : MI f hour now i) (hi : i ≤ 8) (hh : wi hour 0 9999 = true) {q : Int} (hq : wi q 0 999 = true) : MI f hour (now ++ [tD now hour q]) (i + 1) := by
 have hb : ∀ x ∈ now, bN x := fun x hx => rI (h.v.nt x hx)
 have hge := aJi now 0
 have hle := aOy now 0 (901 + (i : Int)) (by omega) fun y hy => by have := (h.late y hy).2; omega
 have hlen := h.len
 refine ⟨⟨h.v.fd, by simp; omega, fun x hx => ?_, fun x hx y hy e => ?_⟩, by simp; omega, fun y hy => ?_⟩
 ·rcases List.mem_append.1 hx with hx | hx
  ·exact h.v.nt x hx
  ·rw [List.mem_singleton.1 hx]
   unfold eZ tD
   have h1 : wi (mxI now 0) 0 999 = true := rZ.2 (by omega)
   simp only [h1, hh, hq]
   rfl
 ·rcases List.mem_append.1 hx with hx | hx <;> rcases List.mem_append.1 hy with hy | hy
  ·exact h.v.id x hx y hy e
  ·rw [List.mem_singleton.1 hy] at e
   have := hge.2 x hx
   have e2 : x.Id = mxI now 0 := e
   omega
  ·rw [List.mem_singleton.1 hx] at e
   have := hge.2 y hy
   have e2 : mxI now 0 = y.Id := e
   omega
  ·rw [List.mem_singleton.1 hx, List.mem_singleton.1 hy]
 ·rcases List.mem_append.1 hy with hy | hy
  ·have := h.late y hy; exact ⟨this.1, by omega⟩
  ·rw [List.mem_singleton.1 hy]
   exact ⟨Int.le_refl _, by show mxI now 0 ≤ _; omega⟩
theorem aLb {f : aP} {l : List aG} {hour p : Int} {L : aH} (A : AF f l hour L) : p ∈ bF L → (Rc L p 0 ↔ p ∈ aW L) := fun hp => by
 obtain ⟨j, hj, g⟩ := A.good
 unfold Rc
 cases hf : L.frozen with
 | true => exact Iff.rfl
 | false =>
  rw [cond_false]
  obtain ⟨B, A2, hE⟩ := List.append_of_mem hp
  have hn := jK g.wf
  rw [hE] at hn
  have n1 := List.nodup_append.1 hn
  have hpB : p ∉ B := fun hm => n1.2.2 p hm p (by simp) rfl
  have hpA : p ∉ A2 := (List.nodup_cons.1 n1.2.1).1
  rw [wH g.wf hE, aFf, aDl hf, hE]
  exact (aOp (aAo g.wf) hpB hpA).symm
theorem aOm {f : aP} {l : List aG} (h : VL f l) (hour : Int) : (aZ f l hour).frozen = decide (f.Freeze < hour) := by
 by_cases hz : f.Freeze < hour
 ·rw [decide_eq_true hz]; exact aIs h hz
 ·rw [decide_eq_false hz]; exact (aft h hour).fz (by omega)
theorem zJ {f : aP} {hour p : Int} {now : List aG} {i : Nat} (h : MI f hour now i) (hi : i ≤ 7) (hh : wi hour 0 9999 = true) (hp : wi p 0 999 = true) :
  ∃ n e, dD f now hour p = some (n, e) ∧ (e = 0 ∨ e = 3) ∧ 0 ≤ n ∧ n ≤ 60 ∧ (e = 0 → (n = 0 ↔ p ∈ aW (aZ f now hour))) ∧
   (e = 0 → 0 < n → (∀ q ∈ aW (aZ f now hour), ∃ v, dD f (now ++ [tD now hour q]) hour p = some v ∧ ¬ (v.2 = 0 ∧ v.1 < n - 1)) ∧ ∃ q ∈ aW (aZ f now hour), dD f (now ++ [tD now hour q]) hour p = some (n - 1, 0)) := by
 have hlen := h.len
 have A := aft h.v hour
 obtain ⟨s0, i0, eA, hi0, hS⟩ := aOa h.v hour
 have hg := hS.good
 have hfr := aOm h.v hour
 have h9 : ∀ q ∈ aW (aZ f now hour), wi q 0 999 = true := fun q hq => aKk h.v hour q (.inl (aBz (A.ms q hq)))
 have hge := aJi now 0
 have haq : ∀ q ∈ aW (aZ f now hour), aZ f (now ++ [tD now hour q]) hour = bJ (aZ f now hour) (cW hour q) := fun q hq =>
  aMf h.v (h.more (by omega) hh (h9 q hq)).v rfl ⟨rfl, rfl⟩ fun y hy => ⟨(h.late y hy).1, by have := hge.2 y hy; show y.Id < mxI now 0; omega⟩
 have hsq : ∀ q ∈ aW (aZ f now hour), _ := fun q hq => aEq (h.more (i := i) (by omega) hh (h9 q hq)).v (by have := (h.more (i := i) (by omega) hh (h9 q hq)).len; omega) hh hp (hour := hour) (p := p)
 rcases aEq h.v (by omega) hh hp with ⟨n, e1, hpE, hn, hr, hmin⟩ | ⟨e1, _⟩
 ·refine ⟨n, 0, e1, .inl rfl, by omega, by omega, fun _ => ?_, fun _ hpos => ?_⟩
  ·rw [← aLb A hpE]
   constructor
   ·intro e; obtain rfl : n = 0 := by omega
    exact hr
   ·intro hz
    by_cases hn0 : n = 0
    ·omega
    ·exact absurd hz (hmin 0 (by omega))
  ·have hpm : p ∉ aW (aZ f now hour) := fun hm => hmin 0 (by omega) ((aLb A hpE).2 hm)
   have low : ∀ q ∈ aW (aZ f now hour), ∀ m, Rc (bJ (aZ f now hour) (cW hour q)) p m → n ≤ m + 1 := fun q hq m hm => by
    obtain ⟨m2, h1, h2⟩ := aSh A hg (by omega) hh hfr hq (h9 q hq) hpE hpm hm
    by_cases hlt : m2 < n
    ·exact absurd h2 (hmin m2 hlt)
    ·omega
   constructor
   ·intro q hq
    have k := hsq q hq
    rw [haq q hq] at k
    rcases k with ⟨m, e2, _, _, hr2, _⟩ | ⟨e2, _⟩
    ·refine ⟨_, e2, fun hv => ?_⟩
     have := low q hq m hr2
     have := hv.2
     simp only at this
     omega
    ·exact ⟨_, e2, fun hv => by have := hv.1; simp at this⟩
   ·obtain ⟨n0, rfl⟩ : ∃ n0, n = n0 + 1 := ⟨n - 1, by omega⟩
    obtain ⟨q, hq, hrq⟩ := aSi A hg (by omega) hh h9 hfr hpE hr hmin
    refine ⟨q, hq, ?_⟩
    have k := hsq q hq
    rw [haq q hq] at k
    have hqp : p ≠ q := fun e => hpm (e ▸ hq)
    rcases k with ⟨m, e2, _, _, hr2, hmin2⟩ | ⟨e2, hno⟩
    ·have := low q hq m hr2
     have h5 : ¬ n0 < m := fun hlt => hmin2 n0 hlt hrq
     obtain rfl : m = n0 := by omega
     rw [e2]
     congr 2
     omega
    ·exfalso
     rcases hno with hno | hno
     ·apply hno
      have hg2 := kT (x := cW hour q) hg (by omega) (aFw hh (h9 q hq))
      rw [xV hg.wf hg2.wf]
      exact List.mem_filter.2 ⟨hpE, by simp [hqp]⟩
     ·exact hno n0 hrq
 ·exact ⟨0, 3, e1, .inr rfl, by omega, by omega, fun h => absurd h (by decide), fun h => absurd h (by decide)⟩
theorem aTj (again : List aG → Int → Int → Int → Option Bool) {f : aP} {now : List aG} (hV : VL f now) (n : Int) (hn : 0 < n ∧ n ≤ 60) (i : Int) (x : dJ)
  (hq : ∀ q ∈ aW (aZ f now x.Hour), ∃ v, dD f (now ++ [tD now x.Hour q]) x.Hour x.Player = some v ∧ ¬ (v.2 = 0 ∧ v.1 < n - 1)) (hs : ∃ q ∈ aW (aZ f now x.Hour), dD f (now ++ [tD now x.Hour q]) x.Hour x.Player = some (n - 1, 0)) :
  eM again now n 0 i f x (mM f now x.Hour) BIG false 0 = iR again now n 0 i true f x (mM f now x.Hour) := by
 have hb : ∀ y ∈ now, bN y := fun y hy => rI (hV.nt y hy)
 have hl := hV.len
 obtain ⟨j0, hj0, g⟩ := sW hV x.Hour
 have hm := sS g
 have key := kB (S := Bool) (fun k j less => eM again now n 0 i f x (mM f now x.Hour) k less j) (aW (aZ f now x.Hour)).length
  (fun j less => iR again now n 0 i (less || ((aW (aZ f now x.Hour)).drop j).any fun q => decide (dD f (now ++ [tD now x.Hour q]) x.Hour x.Player = some (n - 1, 0))) f x (mM f now x.Hour)) (fun _ _ => True) (fun k j less hj _ ih => ?_) (fun k less _ => ?_) BIG false (dC (by omega)) trivial
 ·rw [key]
  obtain ⟨q, hqm, hqe⟩ := hs
  have : ((aW (aZ f now x.Hour)).drop 0).any (fun q => decide (dD f (now ++ [tD now x.Hour q]) x.Hour x.Player = some (n - 1, 0))) = true := List.any_eq_true.2 ⟨q, hqm, decide_eq_true hqe⟩
  rw [this]; rfl
 ·have hj2 : j < (mM f now x.Hour).Main.length := hj
  obtain ⟨v, e, hv⟩ := hq _ (List.getElem_mem hj)
  have e2 : dD f (now ++ [tD now x.Hour (mM f now x.Hour).Main[j]]) x.Hour x.Player = some v := e
  simp only [eM, show decide ((j : Int) < ((mM f now x.Hour).Main.length : Int)) = true from decide_eq_true (by omega), cond_true, cV hj2, Option.bind_some, aRv now (by omega) hb, e2, jQ, cR (n := n - 1) (by omega) (by omega), bU (show j < 9223372036854775807 by omega)]
  have c1 : (decide (v.2 = 0) && decide (v.1 < n - 1)) = false := by
   rw [Bool.eq_false_iff]
   intro h
   rw [Bool.and_eq_true, decide_eq_true_eq, decide_eq_true_eq] at h
   exact hv h
  rw [c1, cond_false, lE, Option.bind_some, ih _ trivial, List.drop_eq_getElem_cons hj, List.any_cons, e]
  have c2 : (decide (v.2 = 0) && decide (v.1 = n - 1)) = decide (some v = some (n - 1, (0 : Int))) := by
   rw [Bool.eq_iff_iff, Bool.and_eq_true, decide_eq_true_eq, decide_eq_true_eq, decide_eq_true_eq]
   constructor
   ·rintro ⟨a, b⟩; congr 1; exact Prod.ext b a
   ·intro h; have := Option.some.inj h; rw [this]; exact ⟨rfl, rfl⟩
  rw [c2, Bool.or_assoc]
 ·simp only [eM, show decide (((aW (aZ f now x.Hour)).length : Int) < ((mM f now x.Hour).Main.length : Int)) = false from decide_eq_false (by show ¬ ((aW (aZ f now x.Hour)).length : Int) < ((aW (aZ f now x.Hour)).length : Int); omega), cond_false, List.drop_length, List.any_nil, Bool.or_false]
theorem aTi {f : aP} {l : List aG} (x : dJ) (h : MI f x.Hour l 0) (hh : wi x.Hour 0 9999 = true) (hp : wi x.Player 0 999 = true) (hP : x.Places.length ≤ 6) {n e : Int} (hne : dD f l x.Hour x.Player = some (n, e)) :
  cF f x BIG l n e 0 = some true := by
 refine qV (S := List aG × Int × Int) (fun k j s => cF f x k s.1 s.2.1 s.2.2 j) (x.Places.length + 1) (fun r => r = some true) (fun j s => j ≤ x.Places.length + 1 ∧ MI f x.Hour s.1 j ∧ dD f s.1 x.Hour x.Player = some (s.2.1, s.2.2)) (fun k j s hj hI ih => ?_) (fun k j s hj hI => ?_) BIG 0 (l, n, e) (dC (by omega)) ⟨by omega, h, hne⟩
 ·obtain ⟨now, n, e⟩ := s
  obtain ⟨_, hM, hN⟩ := hI
  simp only at hM hN
  obtain ⟨n2, e2, hN2, he, hn0, hn60, hz, hgo⟩ := zJ hM (by omega) hh hp
  rw [hN] at hN2
  obtain ⟨rfl, rfl⟩ : n = n2 ∧ e = e2 := by simpa using hN2
  have hV := hM.v
  have A := aft hV x.Hour
  obtain ⟨j0, hj0, g⟩ := A.good
  have hml := sS g
  have h9 : ∀ q ∈ aW (aZ f now x.Hour), wi q 0 999 = true := fun q hq => aKk hV x.Hour q (.inl (aBz (A.ms q hq)))
  have hb : ∀ y ∈ now, bN y := fun y hy => rI (hV.nt y hy)
  have hl := hV.len
  have hmain : (mM f now x.Hour).Main = aW (aZ f now x.Hour) := rfl
  have next : ∀ (hne : j ≠ x.Places.length) (hm0 : (aW (aZ f now x.Hour)).length ≠ 0), (idx x.Places (j : Int)).bind (fun x43 => (chk (!decide (((mM f now x.Hour).Main.length : Int) = 0))).bind fun u44 => (idx (mM f now x.Hour).Main ((max 0 x43).tmod ((mM f now x.Hour).Main.length : Int))).bind fun x45 =>
    (iX now x.Hour x45).bind fun r46 => (dD f r46 x.Hour x.Player).bind fun r47 => gL (cF f x k) r46 r47.1 r47.2 (j : Int) f x) = some true := fun hne hm0 => by
   have hjP : j < x.Places.length := by omega
   rw [cV hjP, Option.bind_some]
   have hc : chk (!decide (((mM f now x.Hour).Main.length : Int) = 0)) = some () := by
    rw [hmain, decide_eq_false (by omega)]; rfl
   rw [hc, Option.bind_some, hmain]
   have ht0 : 0 ≤ (max 0 x.Places[j]).tmod ((aW (aZ f now x.Hour)).length : Int) := Int.tmod_nonneg _ (by omega)
   have ht1 : (max 0 x.Places[j]).tmod ((aW (aZ f now x.Hour)).length : Int) < ((aW (aZ f now x.Hour)).length : Int) := Int.tmod_lt_of_pos _ (by omega)
   rw [aTe ht0 (by omega), Option.bind_some, aRv now (by omega) hb, Option.bind_some]
   have hqm : (aW (aZ f now x.Hour))[((max 0 x.Places[j]).tmod ((aW (aZ f now x.Hour)).length : Int)).toNat]'(by omega) ∈ aW (aZ f now x.Hour) := List.getElem_mem _
   have hM2 := hM.more (by omega) hh (h9 _ hqm)
   obtain ⟨n3, e3, hN3, _⟩ := zJ hM2 (by omega) hh hp
   rw [hN3, Option.bind_some]
   unfold gL
   rw [bU (by omega)]
   exact ih (_, n3, e3) ⟨by omega, hM2, hN3⟩
  have hL := aLa hV hh
  show cF f x (k + 1) now n e (j : Int) = some true
  rw [cF, decide_eq_true (show (j : Int) ≤ (x.Places.length : Int) by omega), cond_true, hL, Option.bind_some]
  rcases he with rfl | rfl
  ·have hhas := aUp (aW (aZ f now x.Hour)) x.Player (by omega)
   have hb1 : decide (decide (n = 0) = decide (x.Player ∈ aW (aZ f now x.Hour))) = true := by
    rw [decide_eq_true_eq]
    exact decide_eq_decide.2 (hz rfl)
   simp only [decide_true, Bool.not_true, cond_false, cond_true, Option.bind_some, hmain, hhas, hb1]
   by_cases hn : 0 < n
   ·obtain ⟨hq, hs⟩ := hgo rfl hn
    rw [decide_eq_true hn, cond_true]
    have k4 := aTj (cF f x k) hV n ⟨hn, hn60⟩ (j : Int) x hq hs
    rw [k4]
    unfold iR
    rw [Bool.not_true, cond_false]
    by_cases hjl : j = x.Places.length
    ·rw [decide_eq_true (show (j : Int) = (x.Places.length : Int) by omega), cond_true, Option.bind_some, cond_true, Option.bind_some, cond_true, Option.bind_some, cond_true]
     unfold dH
     rw [oN]; rfl
    ·rw [decide_eq_false (show ¬ (j : Int) = (x.Places.length : Int) by omega), cond_false, Option.bind_some]
     obtain ⟨q, hqm, _⟩ := hs
     have hm0 : (aW (aZ f now x.Hour)).length ≠ 0 := fun e => by rw [List.length_eq_zero_iff.1 e] at hqm; simp at hqm
     rw [show decide (((mM f now x.Hour).Main.length : Int) = 0) = false from decide_eq_false (by rw [hmain]; omega), cond_false, decide_eq_true rfl, Bool.not_true, Option.bind_some, cond_false, decide_eq_false (show ¬ n = 0 by omega), Option.bind_some, cond_false]
     have := next hjl hm0
     rw [show decide (((mM f now x.Hour).Main.length : Int) = 0) = false from decide_eq_false (by rw [hmain]; omega)] at this
     exact this
   ·obtain rfl : n = 0 := by omega
    simp only [decide_true, show decide ((0 : Int) < 0) = false from rfl, cond_false]
    cases decide ((j : Int) = (x.Places.length : Int)) <;> cases decide (((aW (aZ f now x.Hour)).length : Int) = 0) <;> simp [dH, oN]
  ·have h30 : decide ((3 : Int) = 0) = false := rfl
   simp only [h30, decide_true, Bool.not_true, Bool.not_false, cond_false, cond_true, Option.bind_some]
   cases decide ((j : Int) = (x.Places.length : Int)) <;> cases decide (((mM f now x.Hour).Main.length : Int) = 0) <;> simp [dH, oN]
 ·obtain ⟨hj1, _, _⟩ := hI
  obtain rfl : j = x.Places.length + 1 := by omega
  show cF f x (k + 1) s.1 s.2.1 s.2.2 ((x.Places.length + 1 : Nat) : Int) = some true
  rw [cF, decide_eq_false (show ¬ ((x.Places.length + 1 : Nat) : Int) ≤ (x.Places.length : Int) by omega), cond_false]
  unfold dH
  rw [oN]; rfl
theorem vV (f : aP) (l : List aG) (x : dJ) (_ : aEr f) (_ : (okL yF) l) (_ : tE x) : mH f l x = some true := by
 obtain ⟨r, hr, hv⟩ := aRd f l
 unfold mH
 rw [hr, aOq]
 simp only [Option.bind_some, lE, oN]
 cases hb : (((((!r || !wi x.Hour 0 9999) || decide (12 < (l.length : Int))) || decide (6 < (x.Places.length : Int))) || decide (x.Player < 0)) || decide (999 < x.Player)) with
 | true => rfl
 | false =>
  simp only [cond_false]
  simp only [Bool.or_eq_false_iff, Bool.not_eq_false', decide_eq_false_iff_not] at hb
  obtain ⟨⟨⟨⟨⟨h1, h2⟩, h3⟩, h4⟩, h5⟩, h6⟩ := hb
  obtain ⟨hV, _⟩ := hv h1
  have hp : wi x.Player 0 999 = true := rZ.2 (by omega)
  have hl := hV.len
  refine qV (S := Unit) (fun k j _ => fH l f x k j) l.length (fun r => r = some true) (fun j _ => j ≤ l.length ∧ ∀ y ∈ l.take j, y.Hour ≤ x.Hour ∧ y.Id ≤ 900) (fun k j _ hj hI ih => ?_) (fun k j _ hj hI => ?_) BIG 0 () (dC (by omega)) ⟨by omega, by simp⟩
  ·simp only [fH, show decide ((j : Int) < (l.length : Int)) = true from decide_eq_true (by omega), cond_true, cV hj, Option.bind_some, lE, oN]
   cases hc : decide (900 < l[j].Id) || decide (x.Hour < l[j].Hour) with
   | true => rfl
   | false =>
    rw [Bool.or_eq_false_iff, decide_eq_false_iff_not, decide_eq_false_iff_not] at hc
    rw [cond_false, bU (by omega)]
    refine ih () ⟨by omega, fun y hy => ?_⟩
    rw [List.take_succ_eq_append_getElem hj] at hy
    rcases List.mem_append.1 hy with hy | hy
    ·exact hI.2 y hy
    ·rw [List.mem_singleton.1 hy]; omega
  ·obtain rfl : j = l.length := by omega
   have hlate := hI.2
   rw [List.take_length] at hlate
   simp only [fH, show decide ((l.length : Int) < (l.length : Int)) = false from decide_eq_false (by omega), cond_false]
   unfold nH
   have hM : MI f x.Hour l 0 := ⟨hV, by omega, fun y hy => by have := hlate y hy; exact ⟨this.1, by simpa using this.2⟩⟩
   obtain ⟨n, e, hN, _⟩ := zJ hM (by omega) h2 hp
   rw [eN (by simp; omega), Option.bind_some, List.nil_append, hN, Option.bind_some]
   exact aTi x hM h2 hp (by omega) hN
end Go.Am
