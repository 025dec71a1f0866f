/- Layer 7, plain: one more lucky loser. -/
import Derived.Test.YtiohgpipanopaaaGreatBbDet
namespace Go.Am
theorem aNo {l : List aE} {s : aE} (h : s ∉ l) : bQ (l ++ [s]) = bQ l ++ [s] := by
 have h' : s ∉ bQ l := fun hm => h ((lD l s).1 hm)
 have e : bQ (l ++ [s]) = kR (bQ l) s := by unfold bQ; rw [List.foldl_append]; rfl
 rw [e]; unfold kR; rw [if_neg h']
theorem aLu {l : List aE} {s : aE} (h : s ∉ l) (hk : s.Kind = 5) : cF (l ++ [s]) = cF l ++ [s] := by
 unfold cF
 rw [aNo h, List.filter_append]
 congr 1
 simp [isL, hk]
theorem vL (L : List aE) (s : aE) (i now : Int) : dA (L ++ [s]) i now = dA L i now ++ (if s.Place = i ∧ s.Old = now then [s] else []) := by
 unfold dA
 rw [List.filter_append]
 congr 1
 by_cases h1 : s.Place = i <;> by_cases h2 : s.Old = now <;> simp [h1, h2]
theorem aAo {L : List aE} {i : Int} : ∀ {n m : Nat} {now : Int} {E : List Int} {U : List aE} {r : Int × List Int × List aE}, n ≤ m → cY L i n now E U = some r → cY L i m now E U = some r
 | 0, _, _, _, _, _, _, h => by simp [cY] at h
 | n + 1, 0, _, _, _, _, hm, _ => by omega
 | n + 1, m + 1, now, E, U, r, hm, h => by
  unfold cY at h ⊢
  cases hc : dA L i now with
  | nil => rw [hc] at h; exact h
  | cons x cs =>
   rw [hc] at h
   cases cs with
   | cons y cs => simp at h
   | nil =>
    simp only at h ⊢
    by_cases hp : x.Player ∈ E
    ·simp [hp] at h
    ·simp only [hp, if_false] at h ⊢
     exact aAo (by omega) h
def Sim (A : Int) (E E' : List Int) : Prop := ∀ x, x ≠ A → (x ∈ E ↔ x ∈ E')
theorem Sim.snoc {A : Int} {E E' : List Int} (h : Sim A E E') (y : Int) : Sim A (E ++ [y]) (E' ++ [y]) := fun x hx => by rw [List.mem_append, List.mem_append, h x hx]
section
variable {L : List aE} {s : aE} (hL : ∀ x ∈ L, x.Player ≠ s.Player)
include hL
theorem aCl {i : Int} (hi : s.Place ≠ i) : ∀ {n : Nat} {now : Int} {E E' : List Int} {U U' : List aE} {now' : Int} {F : List Int} {V : List aE}, Sim s.Player E E' → cY L i n now E U = some (now', F, V) →
  ∃ F' V', cY (L ++ [s]) i n now E' U' = some (now', F', V') ∧ Sim s.Player F F' ∧ V'.length + U.length = V.length + U'.length ∧ (s.Player ∉ E' → s.Player ∉ F')
 | 0, _, _, _, _, _, _, _, _, _, h => by simp [cY] at h
 | n + 1, now, E, E', U, U', now', F, V, hS, h => by
  have hc' : dA (L ++ [s]) i now = dA L i now := by rw [vL, if_neg (fun e => hi e.1), List.append_nil]
  unfold cY at h ⊢
  rw [hc']
  cases hc : dA L i now with
  | nil =>
   rw [hc] at h
   simp only [Option.some.injEq, Prod.mk.injEq] at h
   obtain ⟨rfl, rfl, rfl⟩ := h
   exact ⟨E', U', rfl, hS, by omega, fun h => h⟩
  | cons x cs =>
   rw [hc] at h
   cases cs with
   | cons y cs => simp at h
   | nil =>
    have hx : x ∈ dA L i now := by rw [hc]; simp
    have hxL := (jZ.1 hx).1
    simp only at h ⊢
    by_cases hp : x.Player ∈ E
    ·simp [hp] at h
    ·have hp' : x.Player ∉ E' := fun h' => hp ((hS _ (hL x hxL)).2 h')
     simp only [hp, hp', if_false] at h ⊢
     obtain ⟨F', V', h1, h2, h3, h4⟩ := aCl hi (U' := U' ++ [x]) (hS.snoc x.Player) h
     refine ⟨F', V', h1, h2, by simp at h3; omega, fun hn => h4 fun hm => ?_⟩
     rcases List.mem_append.1 hm with hm | hm
     ·exact hn hm
     ·simp at hm; exact hL x hxL hm.symm
theorem aDq (hLK : LOK L) {T : Nat} {i : Int} (hi : s.Place = i) (hOld : ∀ x ∈ L, x.Old ≠ s.Player) (hne : s.Old ≠ s.Player) : ∀ {n : Nat} {now : Int} {E E' : List Int} {U U' : List aE} {F : List Int} {V : List aE}, SI L T i now E U → Sim s.Player E E' → s.Player ∉ E' → cY L i n now E U = some (s.Old, F, V) →
  ∃ F' V', cY (L ++ [s]) i (n + 1) now E' U' = some (s.Player, F', V') ∧ Sim s.Player F F' ∧ V'.length + U.length = V.length + U'.length + 1
 | 0, _, _, _, _, _, _, _, _, _, _, h => by simp [cY] at h
 | n + 1, now, E, E', U, U', F, V, hSI, hS, hA, h => by
  unfold cY at h
  cases hc : dA L i now with
  | nil =>
   rw [hc] at h
   simp only [Option.some.injEq, Prod.mk.injEq] at h
   obtain ⟨rfl, rfl, rfl⟩ := h
   have hc1 : dA (L ++ [s]) i s.Old = [s] := by rw [vL, hc, if_pos ⟨hi, rfl⟩]; rfl
   have hc2 : dA (L ++ [s]) i s.Player = [] := by
    rw [vL, if_neg (fun e => hne e.2), List.append_nil]
    cases e : dA L i s.Player with
    | nil => rfl
    | cons y cs =>
     have hy : y ∈ dA L i s.Player := by rw [e]; simp
     obtain ⟨m1, _, m3⟩ := jZ.1 hy
     exact absurd m3 (hOld y m1)
   refine ⟨E' ++ [s.Player], U' ++ [s], ?_, fun x hx => ?_, by simp; omega⟩
   ·unfold cY
    rw [hc1]
    simp only [hA, if_false]
    unfold cY
    rw [hc2]
   ·rw [List.mem_append, List.mem_singleton, hS x hx]
    exact ⟨.inl, fun h => h.resolve_right hx⟩
  | cons x cs =>
   rw [hc] at h
   cases cs with
   | cons y cs => simp at h
   | nil =>
    have hx : x ∈ dA L i now := by rw [hc]; simp
    obtain ⟨hxL, hxp, hxo⟩ := jZ.1 hx
    simp only at h
    by_cases hp : x.Player ∈ E
    ·simp [hp] at h
    ·simp only [hp, if_false] at h
     obtain ⟨_, _, h3, _⟩ := vT hLK (hSI.next hx hp) h
     have hnow : s.Old ≠ now := by
      intro e
      rcases h3 with h3 | ⟨h3, _⟩
      ·exact hp (by rw [← h3, e]; exact hSI.ne)
      ·exact h3 (List.mem_append_left _ (e ▸ hSI.ne))
     have hp' : x.Player ∉ E' := fun h' => hp ((hS _ (hL x hxL)).2 h')
     have hc1 : dA (L ++ [s]) i now = [x] := by rw [vL, hc, if_neg (fun e => hnow e.2), List.append_nil]
     have hA' : s.Player ∉ E' ++ [x.Player] := fun hm => by
      rcases List.mem_append.1 hm with hm | hm
      ·exact hA hm
      ·simp at hm; exact hL x hxL hm.symm
     obtain ⟨F', V', g1, g2, g3⟩ := aDq hLK hi hOld hne (U' := U' ++ [x]) (hSI.next hx hp) (hS.snoc x.Player) hA' h
     refine ⟨F', V', ?_, g2, by simp at g3; omega⟩
     rw [cY, hc1]
     simp only [hp', if_false]
     exact g1
theorem aGi {q : Nat} (hq : s.Place = (q : Int)) : ∀ {n i : Nat} {d : List Int} {E E' : List Int} {U U' : List aE} {d' : List Int} {V : List aE}, q < i → i + n ≤ d.length → Sim s.Player E E' → U'.length = U.length + 1 → dU L n i d E U = some (d', V) →
  ∃ V', dU (L ++ [s]) n i (d.set q s.Player) E' U' = some (d'.set q s.Player, V') ∧ V'.length = V.length + 1
 | 0, i, d, E, E', U, U', d', V, hi, hn, hS, hU, h => by
  simp only [dU, Option.some.injEq, Prod.mk.injEq] at h
  obtain ⟨rfl, rfl⟩ := h
  exact ⟨U', rfl, hU⟩
 | n + 1, i, d, E, E', U, U', d', V, hi, hn, hS, hU, h => by
  have hgi : (d.set q s.Player).getD i 0 = d.getD i 0 := by rw [iF (by omega), if_neg (by omega)]
  unfold dU at h ⊢
  rw [hgi]
  cases hs : cY L i (L.length + 1) (d.getD i 0) E U with
  | none => rw [hs] at h; simp at h
  | some r =>
   obtain ⟨now', F, V1⟩ := r
   rw [hs] at h
   obtain ⟨F', V1', g1, g2, g3, _⟩ := aCl hL (show s.Place ≠ (i : Int) by omega) (U' := U') hS hs
   rw [aAo (show L.length + 1 ≤ (L ++ [s]).length + 1 by simp) g1]
   simp only at h ⊢
   rw [List.set_comm _ _ (show q ≠ i by omega)]
   exact aGi hq (by omega) (by rw [List.length_set]; omega) g2 (by omega) h
theorem aGh (hLK : LOK L) {S : List Int} {q : Nat} (hq : s.Place = (q : Int)) (hOld : ∀ x ∈ L, x.Old ≠ s.Player) (hne : s.Old ≠ s.Player) : ∀ {n i : Nat} {d : List Int} {E E' : List Int} {U U' : List aE} {d' : List Int} {V : List aE}, i ≤ q → q < S.length → i + n = S.length → GI L S i d E U → Sim s.Player E E' → s.Player ∉ E' → U'.length = U.length →
  dU L n i d E U = some (d', V) → d'.getD q 0 = s.Old → ∃ V', dU (L ++ [s]) n i d E' U' = some (d'.set q s.Player, V') ∧ V'.length = V.length + 1
 | 0, i, d, E, E', U, U', d', V, hi, hqS, hn, hG, hS, hA, hU, h, hd => by omega
 | n + 1, i, d, E, E', U, U', d', V, hi, hqS, hn, hG, hS, hA, hU, h, hd => by
  have hdl := hG.len
  unfold dU at h ⊢
  cases hs : cY L i (L.length + 1) (d.getD i 0) E U with
  | none => rw [hs] at h; simp at h
  | some r =>
   obtain ⟨now', F, V1⟩ := r
   rw [hs] at h
   have hG' := hG.next hLK (show i < S.length by omega) hs
   by_cases hiq : i = q
   ·subst hiq
    have hdi : d'.getD i 0 = now' := by
     have hd1 := playF_keep h (j := i) (by omega)
     rw [hd1, iF (by omega), if_pos rfl]
    rw [hdi] at hd
    subst hd
    obtain ⟨F', V1', g1, g2, g3⟩ := aDq hL hLK hq hOld hne (U' := U') (hG.start (by omega)) hS hA hs
    have hfl : (L ++ [s]).length + 1 = L.length + 1 + 1 := by simp
    rw [hfl, g1]
    simp only at h ⊢
    obtain ⟨V', p1, p2⟩ := aGi hL hq (E' := F') (U' := V1') (show i < i + 1 by omega) (by rw [List.length_set]; omega) g2 (by omega) h
    rw [List.set_set] at p1
    exact ⟨V', p1, p2⟩
   ·obtain ⟨F', V1', g1, g2, g3, g4⟩ := aCl hL (show s.Place ≠ (i : Int) by omega) (U' := U') hS hs
    rw [aAo (show L.length + 1 ≤ (L ++ [s]).length + 1 by simp) g1]
    simp only at h ⊢
    exact aGh hLK hq hOld hne (by omega) hqS (by omega) hG' g2 (g4 hA) (by omega) h hd
where
 playF_keep {L : List aE} : ∀ {n i : Nat} {d E : List Int} {U : List aE} {d' : List Int} {V : List aE}, dU L n i d E U = some (d', V) → ∀ {j : Nat}, j < i → d'.getD j 0 = d.getD j 0
  | 0, i, d, E, U, d', V, h, j, hj => by
   simp only [dU, Option.some.injEq, Prod.mk.injEq] at h
   rw [h.1]
  | n + 1, i, d, E, U, d', V, h, j, hj => by
   unfold dU at h
   cases hs : cY L i (L.length + 1) (d.getD i 0) E U with
   | none => rw [hs] at h; simp at h
   | some r =>
    obtain ⟨now', F, V1⟩ := r
    rw [hs] at h
    rw [playF_keep h (by omega)]
    simp only [List.getD]
    rw [List.getElem?_set, if_neg (by omega)]
end
structure EV (S E : List Int) (U : List aE) : Prop where
 e1 : ∀ x ∈ E, x ∈ S ∨ ∃ u ∈ U, u.Player = x
 e2 : ∀ u ∈ U, u.Old ∈ E
theorem aLi {L : List aE} {S : List Int} {i : Int} : ∀ {n : Nat} {now : Int} {E : List Int} {U : List aE} {now' : Int} {F : List Int} {V : List aE}, now ∈ E → EV S E U → cY L i n now E U = some (now', F, V) → EV S F V
 | 0, _, _, _, _, _, _, _, _, h => by simp [cY] at h
 | n + 1, now, E, U, now', F, V, hn, hV, h => by
  unfold cY at h
  cases hc : dA L i now with
  | nil =>
   rw [hc] at h
   simp only [Option.some.injEq, Prod.mk.injEq] at h
   obtain ⟨rfl, rfl, rfl⟩ := h
   exact hV
  | cons x cs =>
   rw [hc] at h
   cases cs with
   | cons y cs => simp at h
   | nil =>
    have hx : x ∈ dA L i now := by rw [hc]; simp
    obtain ⟨_, _, hxo⟩ := jZ.1 hx
    simp only at h
    by_cases hp : x.Player ∈ E
    ·simp [hp] at h
    ·simp only [hp, if_false] at h
     refine aLi (by simp) ⟨fun y hy => ?_, fun u hu => ?_⟩ h
     ·rcases List.mem_append.1 hy with hy | hy
      ·rcases hV.e1 y hy with h | ⟨u, hu, h⟩
       ·exact .inl h
       ·exact .inr ⟨u, List.mem_append_left _ hu, h⟩
      ·simp at hy; exact .inr ⟨x, by simp, hy.symm⟩
     ·rcases List.mem_append.1 hu with hu | hu
      ·exact List.mem_append_left _ (hV.e2 u hu)
      ·simp at hu; subst hu; exact List.mem_append_left _ (hxo ▸ hn)
theorem aKu {L : List aE} (hL : LOK L) {S : List Int} : ∀ {n i : Nat} {d E : List Int} {U : List aE} {d' : List Int} {V : List aE}, GI L S i d E U → i + n = S.length → EV S E U → dU L n i d E U = some (d', V) → ∃ F, EV S F V
 | 0, i, d, E, U, d', V, hG, hn, hV, h => by
  simp only [dU, Option.some.injEq, Prod.mk.injEq] at h
  obtain ⟨rfl, rfl⟩ := h
  exact ⟨E, hV⟩
 | n + 1, i, d, E, U, d', V, hG, hn, hV, h => by
  unfold dU at h
  cases hs : cY L i (L.length + 1) (d.getD i 0) E U with
  | none => rw [hs] at h; simp at h
  | some r =>
   obtain ⟨now', F, V1⟩ := r
   rw [hs] at h
   exact aKu hL (hG.next hL (show i < S.length by omega) hs) (by omega) (aLi (hG.start (show i < S.length by omega)).ne hV hs) h
theorem aKv {t : aJ} (ht : TreeOK t) {l : List aE} (hsl : ∀ s ∈ l, eI t s = true) {d : List Int} (h : fT t l = some d) {s : aE} (hk : s.Kind = 5) (hnew : s ∉ l) {q : Nat} (hq : s.Place = (q : Int)) (hqd : q < d.length) (ho : d.getD q 0 = s.Old)
  (hS : s.Player ∉ t.Slots) (hP : ∀ x ∈ l, x.Player ≠ s.Player) (hne : s.Old ≠ s.Player) : fT t (l ++ [s]) = some (d.set q s.Player) := by
 have hD := tJ ht hsl h
 have hL := aBa hsl
 unfold fT at h
 split at h
 ·rename_i d2 U hr
  split at h
  ·rename_i hU
   cases h
   have hP' : ∀ x ∈ cF l, x.Player ≠ s.Player := fun x hx => hP x (aAa.1 hx).1
   have hG := wG (cF l) (sU ht)
   obtain ⟨ever, hI⟩ := vP hL hG (by omega) hr
   obtain ⟨F, hV⟩ := aKu hL hG (by omega) ⟨fun x hx => .inl hx, by simp⟩ hr
   have hall : ∀ u, u ∈ cF l → u ∈ U := fun u hu => Classical.byContradiction fun hn => by
    have := lM (l := u :: U) (m := cF l) (List.nodup_cons.2 ⟨hn, hI.un⟩) fun x hx => by
     rcases List.mem_cons.1 hx with rfl | hx
     ·exact hu
     ·exact hI.us x hx
    simp only [List.length_cons] at this
    omega
   have hOld : ∀ x ∈ cF l, x.Old ≠ s.Player := fun x hx e => by
    rcases hV.e1 _ (hV.e2 x (hall x hx)) with h1 | ⟨u, hu, h1⟩
    ·exact hS (e ▸ h1)
    ·exact hP' u (hI.us u hu) (h1.trans e)
   have hlen := hD.len
   obtain ⟨V', p1, p2⟩ := aGh hP' hL hq hOld hne (E' := t.Slots) (U' := []) (Nat.zero_le _) (by omega) (by omega) hG (fun x _ => Iff.rfl) hS rfl hr ho
   unfold fT vQ
   rw [aLu hnew hk, p1]
   simp [p2, hU]
  ·cases h
 ·cases h
end Go.Am
