/- Layer 7, plain: the program's replace. -/
import Derived.Test.YtenffgkkeafnpaaBrPlain5
namespace Go.Am

theorem uB {α β : Type} [DecidableEq α] (a : α) : ∀ l : List (α × β), (mD a l).map (·.1) = (l.map (·.1)).erase a
  | [] => by simp [mD, eK]
  | (k, u) :: l => by
    have ih := uB a l
    unfold mD at ih ⊢
    simp only [List.map_cons, eK]
    by_cases h : a = k
    · subst h; simp
    · rw [decide_eq_false h, cond_false, List.erase_cons_tail (by simpa using Ne.symm h), ← ih]
      cases eK a (l.map (·.1)) with
      | none => simp
      | some j => simp
theorem zO {α β : Type} [DecidableEq α] {a x : α} {l : List (α × β)} (hn : (l.map (·.1)).Nodup) : x ∈ (mD a l).map (·.1) ↔ x ∈ l.map (·.1) ∧ x ≠ a := by
  rw [uB, hn.mem_erase_iff]; exact And.comm
theorem aAs {α β : Type} [DecidableEq α] {a : α} {l : List (α × β)} (hn : (l.map (·.1)).Nodup) : ((mD a l).map (·.1)).Nodup := by
  rw [uB]; exact hn.erase a
theorem vV {α β : Type} [DecidableEq α] {a : α} {l : List (α × β)} (h : a ∈ l.map (·.1)) : (mD a l).length + 1 = l.length := by
  have h1 := congrArg List.length (uB a l)
  rw [List.length_map, List.length_erase_of_mem h, List.length_map] at h1
  have : 0 < l.length := by
    cases l with
    | nil => simp at h
    | cons => simp
  omega

theorem aCh {t : aO} {d : List Int} {lk : List (aE × Int)} {i : Nat} {Q : aE × Bool → Prop} (hi : i < d.length) (hlen : lk.length ≤ 3000)
    (h1 : ∀ s : aE, s ∈ lk.map (·.1) → s.Place = (i : Int) → s.Old = d.getD i 0 → Q (s, true))
    (h0 : (∀ s : aE, s ∈ lk.map (·.1) → s.Place = (i : Int) → s.Old ≠ d.getD i 0) → Q (⟨0, 0, 0, 0, 0⟩, false)) : gE t d lk i Q := by
  have key : ∀ n k left, left.length = n → n < k → (∀ p ∈ left, p ∈ lk) → (∀ s : aE, s ∈ lk.map (·.1) → s.Place = (i : Int) → s.Old = d.getD i 0 → s ∈ left.map (·.1)) → fZ Q i d t lk k ⟨0, 0, 0, 0, 0⟩ left := by
    intro n
    induction n with
    | zero =>
      intro k left hn hk hsub hall
      cases k with
      | zero => omega
      | succ k =>
        have : left = [] := List.length_eq_zero_iff.1 hn
        subst this
        simp only [fZ, kU]
        refine ⟨fun _ => h0 fun s hs hp ho => ?_, fun j p hj => by simp at hj⟩
        simpa using hall s hs hp ho
    | succ n ih =>
      intro k left hn hk hsub hall
      cases k with
      | zero => omega
      | succ k =>
        simp only [fZ, kU]
        refine ⟨fun e => by subst e; simp at hn, fun j p hj => ?_⟩
        have hjl : j < left.length := by
          rcases Nat.lt_or_ge j left.length with h | h
          · exact h
          · rw [List.getElem?_eq_none h] at hj; cases hj
        have hpm : p ∈ left := List.mem_of_getElem? hj
        have hkey : p.1 ∈ lk.map (·.1) := List.mem_map.2 ⟨p, hsub p hpm, rfl⟩
        simp only [cK hi, Option.bind_some, fN]
        refine ⟨_, rfl, ?_⟩
        rw [← bP hi 0]
        by_cases hm : p.1.Place = i ∧ p.1.Old = d.getD i 0
        · simp only [hm.1, hm.2, decide_true, Bool.and_self, cond_true]
          exact h1 _ hkey hm.1 hm.2
        · have : (decide (p.1.Place = (i : Int)) && decide (p.1.Old = d.getD i 0)) = false := by
            rw [Bool.and_eq_false_iff, decide_eq_false_iff_not, decide_eq_false_iff_not]
            by_cases h : p.1.Place = i
            · exact .inr fun h' => hm ⟨h, h'⟩
            · exact .inl h
          simp only [this, cond_false]
          refine ih k _ (by rw [List.length_eraseIdx]; simp [hjl]; omega) (by omega) (fun q hq => hsub q (List.mem_of_mem_eraseIdx hq)) fun s hs hp ho => ?_
          obtain ⟨q, hq, rfl⟩ := List.mem_map.1 (hall s hs hp ho)
          refine List.mem_map.2 ⟨q, ?_, rfl⟩
          obtain ⟨j', hj', rfl⟩ := List.mem_iff_getElem.1 hq
          rw [List.mem_eraseIdx_iff_getElem]
          refine ⟨j', hj', ?_, rfl⟩
          rintro rfl
          rw [List.getElem?_eq_getElem hj'] at hj
          cases hj
          exact hm ⟨hp, ho⟩
  unfold gE uW
  exact key lk.length BIG lk rfl (cW (by omega)) (fun p hp => hp) fun s hs _ _ => hs

/-- The lucky slips that are left. -/
structure LK (L : List aE) (lk : List (aE × Int)) (U : List aE) : Prop where
  nd : (lk.map (·.1)).Nodup
  mem : ∀ s : aE, s ∈ lk.map (·.1) ↔ s ∈ L ∧ s ∉ U
/-- A slip is left for good. -/
def aCz (i : Nat) (d ever : List Int) (lk : List (aE × Int)) : Prop :=
  ∃ x : aE, x ∈ lk.map (·.1) ∧ (x.Place < (i : Int) ∨ (x.Place = (i : Int) ∧ x.Old ∈ ever ∧ x.Old ≠ d.getD i 0))

/-- The state of the program between two steps. -/
structure PS (D : Nat) (d ever : List Int) (lk : List (aE × Int)) : Prop where
  dl : d.length = D
  sz : D + lk.length + ever.length ≤ 3000
  mem : ∀ x ∈ d, x ∈ ever
  nd : (lk.map (·.1)).Nodup
theorem PS.step {D : Nat} {d ever : List Int} {lk : List (aE × Int)} (h : PS D d ever lk) {s : aE} (hs : s ∈ lk.map (·.1)) (i : Nat) : PS D (d.set i s.Player) (ever ++ [s.Player]) (mD s lk) := by
  have hml := vV hs
  obtain ⟨h1, h2, h3, h4⟩ := h
  refine ⟨by simpa using h1, by simp; omega, fun x hx => ?_, aAs h4⟩
  rcases List.mem_or_eq_of_mem_set hx with hx | rfl
  · exact List.mem_append_left _ (h3 x hx)
  · simp

section
variable {t : aO} {L : List aE} (hLn : L.Nodup)
variable (Q : (Bool × List Int × List (aE × Int)) → Prop) (hbad : ∀ d lk, Q (false, d, lk))
include hbad in

/-- A slot with a slip that is left for good. -/
theorem aCo (a0 : Int → List Int → List (aE × Int) → List Int → Prop) (T : Int) {i D : Nat} (hiD : i < D)
    (hgo : ∀ d lk ever, PS D d ever lk → aCz (i + 1) d ever lk → a0 ((i + 1 : Nat) : Int) d lk ever) :
    ∀ n k d lk ever, lk.length ≤ n → n < k → PS D d ever lk → aCz i d ever lk →
    gE t d lk i fun r => dM Q a0 i T i t k r.2 d lk r.1 ever := by
  intro n
  induction n with
  | zero =>
    intro k d lk ever hn hk hP ⟨x, hx, _⟩
    have : lk = [] := List.length_eq_zero_iff.1 (by omega)
    subst this
    simp at hx
  | succ n ih =>
    intro k d lk ever hn hk hP hD
    have hi : i < d.length := by rw [hP.dl]; exact hiD
    have hnd := hP.nd
    have hlen := hP.sz
    obtain ⟨x, hx, hxp⟩ := hD
    cases k with
    | zero => omega
    | succ k =>
      refine aCh hi (by omega) (fun s hs hp ho => ?_) fun _ => ?_
      · simp only [dM, cond_true]
        refine ⟨_, pY ever (by omega) _, ?_⟩
        by_cases hpe : s.Player ∈ ever
        · simp only [hpe, decide_true, cond_true]; exact hbad _ _
        · simp only [hpe, decide_false, cond_false]
          refine ⟨_, cK hi, _, gB (by simp; omega), ?_⟩
          have hml := vV hs
          have e : ((i : Int)).toNat = i := by simp
          rw [e]
          refine ih k (d.set i s.Player) (mD s lk) (ever ++ [s.Player]) (by omega) (by omega) (hP.step hs i) ⟨x, (zO hnd).2 ⟨hx, ?_⟩, ?_⟩
          · rintro rfl
            rcases hxp with h | ⟨_, _, h⟩
            · omega
            · exact h ho
          · rcases hxp with h | ⟨h1, h2, h3⟩
            · exact .inl h
            · rw [jH hi, if_pos rfl]
              exact .inr ⟨h1, List.mem_append_left _ h2, fun e => hpe (e ▸ h2)⟩
      · simp only [dM, cond_false, jL, jK, cI (show i < 9223372036854775807 by omega)]
        refine hgo d lk ever hP ⟨x, hx, .inl ?_⟩
        rcases hxp with h | ⟨h, _⟩ <;> omega

include hLn in
theorem aJe (a0 : Int → List Int → List (aE × Int) → List Int → Prop) (T : Int) {i D : Nat} (hiD : i < D) :
    ∀ n k d lk now ever U, lk.length + n + 1 ≤ k → PS D d ever lk → now = d.getD i 0 → SI L t.Slots.length i now ever U → LK L lk U → L.length < n + U.length →
    (∀ now' ever' U' lk', gS L i n now ever U = some (now', ever', U') → LK L lk' U' → PS D (d.set i now') ever' lk' → a0 ((i + 1 : Nat) : Int) (d.set i now') lk' ever') →
    (gS L i n now ever U = none → (∀ d lk, Q (false, d, lk)) ∧ ∀ d lk ever, PS D d ever lk → aCz (i + 1) d ever lk → a0 ((i + 1 : Nat) : Int) d lk ever) →
    gE t d lk i fun r => dM Q a0 i T i t k r.2 d lk r.1 ever := by
  intro n
  induction n with
  | zero =>
    intro k d lk now ever U hk hP hnow hS hK hn hok hbd
    have := hS.le
    omega
  | succ n ih =>
    intro k d lk now ever U hk hP hnow hS hK hn hok hbd
    have hi : i < d.length := by rw [hP.dl]; exact hiD
    have hlen := hP.sz
    have hc : ∀ s : aE, s ∈ lk.map (·.1) → s.Place = (i : Int) → s.Old = d.getD i 0 → s ∈ fP L i now := fun s hs hp ho => mT.2 ⟨((hK.mem s).1 hs).1, hp, by rw [hnow]; exact ho⟩
    have hc' : ∀ s : aE, s ∈ fP L i now → s ∈ lk.map (·.1) := by
      intro s hs
      obtain ⟨m1, m2, m3⟩ := mT.1 hs
      exact (hK.mem s).2 ⟨m1, fun hu => (hS.old s hu m2).2 m3⟩
    cases k with
    | zero => omega
    | succ k =>
      refine aCh hi (by omega) (fun s hs hp ho => ?_) fun hno => ?_
      · have hsc := hc s hs hp ho
        simp only [dM, cond_true]
        refine ⟨_, pY ever (by omega) _, ?_⟩
        have e : ((i : Int)).toNat = i := by simp
        by_cases hone : ∃ s2, s2 ∈ fP L i now ∧ s2 ≠ s
        · obtain ⟨s2, h2, hne⟩ := hone
          obtain ⟨m1, m2, m3⟩ := mT.1 h2
          have hnone : gS L i (n + 1) now ever U = none := by
            rw [gS]
            cases h : fP L i now with
            | nil => rw [h] at h2; simp at h2
            | cons a cs =>
              cases cs with
              | cons b cs => rfl
              | nil =>
                rw [h] at h2 hsc
                simp at h2 hsc
                exact absurd (h2.trans hsc.symm) hne
          obtain ⟨hbad, hgo⟩ := hbd hnone
          by_cases hpe : s.Player ∈ ever
          · simp only [hpe, decide_true, cond_true]; exact hbad _ _
          · simp only [hpe, decide_false, cond_false]
            refine ⟨_, cK hi, _, gB (by simp; omega), ?_⟩
            have hml := vV hs
            rw [e]
            refine aCo Q hbad a0 T hiD hgo (mD s lk).length k _ _ _ (Nat.le_refl _) (by omega) (hP.step hs i) ⟨s2, (zO hK.nd).2 ⟨hc' s2 h2, hne⟩, .inr ⟨m2, ?_, ?_⟩⟩
            · rw [m3]; exact List.mem_append_left _ hS.ne
            · rw [jH hi, if_pos rfl, m3]; exact fun e => hpe (e ▸ hS.ne)
        · have hall : ∀ x ∈ fP L i now, x = s := fun x hx => Classical.byContradiction fun h => hone ⟨x, hx, h⟩
          have hcs : fP L i now = [s] := by
            have hnd : (fP L i now).Nodup := hLn.filter _
            cases h : fP L i now with
            | nil => rw [h] at hsc; simp at hsc
            | cons a cs =>
              rw [h] at hall hnd
              have ha := hall a (by simp)
              subst ha
              cases cs with
              | nil => rfl
              | cons b cs =>
                have := hall b (by simp)
                subst this
                simp at hnd
          by_cases hpe : s.Player ∈ ever
          · simp only [hpe, decide_true, cond_true]
            exact (hbd (by rw [gS, hcs]; simp only [hpe, if_true])).1 _ _
          · simp only [hpe, decide_false, cond_false]
            refine ⟨_, cK hi, _, gB (by simp; omega), ?_⟩
            have hml := vV hs
            rw [e]
            have hslot : gS L i (n + 1) now ever U = gS L i n s.Player (ever ++ [s.Player]) (U ++ [s]) := by
              rw [gS, hcs]; simp only [hpe, if_false]
            rw [hslot] at hok hbd
            refine ih k (d.set i s.Player) (mD s lk) s.Player (ever ++ [s.Player]) (U ++ [s]) (by omega) (hP.step hs i) (by rw [jH hi, if_pos rfl]) (hS.next hsc hpe) ⟨aAs hK.nd, fun x => ?_⟩ (by simp; omega) (fun now' ever' U' lk' h1 h2 h3 => ?_) hbd
            · rw [zO hK.nd, hK.mem, List.mem_append, List.mem_singleton, not_or, and_assoc]
            · rw [List.set_set] at h3 ⊢
              exact hok now' ever' U' lk' h1 h2 h3
      · have hcs : fP L i now = [] := by
          cases h : fP L i now with
          | nil => rfl
          | cons s cs =>
            have hs : s ∈ fP L i now := by rw [h]; simp
            obtain ⟨m1, m2, m3⟩ := mT.1 hs
            exact absurd (by rw [m3, hnow]) (hno s (hc' s hs) m2)
        have hslot : gS L i (n + 1) now ever U = some (now, ever, U) := by rw [gS, hcs]
        simp only [dM, cond_false, jL, jK, cI (show i < 9223372036854775807 by omega)]
        have e : d.set i now = d := by rw [hnow, bP hi]; exact List.set_getElem_self hi
        have := hok now ever U lk hslot hK
        rw [e] at this
        exact this hP

/-- No slip is left for good at the end. -/
theorem aJt {i : Nat} {d ever : List Int} {lk : List (aE × Int)} (h : aCz i d ever lk) : decide ((lk.length : Int) = 0) = false := by
  obtain ⟨x, hx, _⟩ := h
  cases lk with
  | nil => simp at hx
  | cons => exact decide_eq_false (by simp; omega)

/-- All slots, with a slip that is left for good. -/
theorem aJs (hbad : ∀ d lk, Q (false, d, lk)) {D : Nat} (hD : D ≤ 3000) : ∀ n i k d lk ever, i + n = D → n < k → PS D d ever lk → aCz i d ever lk → cT Q D t k i d lk ever := by
  intro n
  induction n with
  | zero =>
    intro i k d lk ever hi hk hP hd
    cases k with
    | zero => omega
    | succ k =>
      have hlt : decide ((i : Int) < (D : Int)) = false := decide_eq_false (by omega)
      simp only [cT, hlt, cond_false, jJ, aJt hd]
      exact hbad _ _
  | succ n ih =>
    intro i k d lk ever hi hk hP hd
    cases k with
    | zero => omega
    | succ k =>
      have hlt : i < D := by omega
      have hsz := hP.sz
      simp only [cT, Int.ofNat_lt, hlt, decide_true, cond_true]
      exact aCo Q hbad (cT Q D t k) D hlt (fun d lk ever h1 h2 => ih (i + 1) k d lk ever (by omega) (by omega) h1 h2) lk.length BIG d lk ever (Nat.le_refl _) (cW (by omega)) hP hd

include hLn in
theorem aFk (hL : LOK L) {S : List Int} (hD : S.length = t.Slots.length) (hS : S.length ≤ 1000) (hLl : L.length ≤ 500) : ∀ n i k d lk ever U, i + n = S.length → n < k → GI L S i d ever U → PS S.length d ever lk → LK L lk U →
    (∀ d' U', iA L n i d ever U = some (d', U') → U'.length = L.length → Q (true, d', [])) →
    ((∀ d' U', iA L n i d ever U = some (d', U') → U'.length ≠ L.length) → ∀ d lk, Q (false, d, lk)) → cT Q S.length t k i d lk ever := by
  intro n
  induction n with
  | zero =>
    intro i k d lk ever U hi hk hG hP hK hok hbad
    cases k with
    | zero => omega
    | succ k =>
      have hlt : decide ((i : Int) < (S.length : Int)) = false := decide_eq_false (by omega)
      simp only [cT, hlt, cond_false, jJ]
      by_cases hU : U.length = L.length
      · have hnil : lk = [] := by
          cases lk with
          | nil => rfl
          | cons p lk =>
            have hp := (hK.mem p.1).1 (by simp)
            have := lH (l := p.1 :: U) (m := L) (List.nodup_cons.2 ⟨hp.2, hG.un⟩) fun x hx => by
              rcases List.mem_cons.1 hx with rfl | hx
              · exact hp.1
              · exact hG.us x hx
            simp only [List.length_cons] at this
            omega
        subst hnil
        exact hok d U rfl hU
      · have hne : lk ≠ [] := by
          rintro rfl
          refine hU (Nat.le_antisymm (lH hG.un hG.us) (lH hLn fun x hx => ?_))
          refine Classical.byContradiction fun hxu => ?_
          have := (hK.mem x).2 ⟨hx, hxu⟩
          simp at this
        have : decide ((lk.length : Int) = 0) = false := by
          cases lk with
          | nil => exact absurd rfl hne
          | cons => exact decide_eq_false (by simp; omega)
        rw [this]
        refine hbad (fun d' U' h => ?_) _ _
        simp only [iA, Option.some.injEq, Prod.mk.injEq] at h
        rw [← h.2]; exact hU
  | succ n ih =>
    intro i k d lk ever U hi hk hG hP hK hok hbad
    cases k with
    | zero => omega
    | succ k =>
      have hlt : i < S.length := by omega
      have hsz := hP.sz
      simp only [cT, Int.ofNat_lt, hlt, decide_true, cond_true]
      refine aJe hLn Q (cT Q S.length t k) S.length hlt (L.length + 1) BIG d lk (d.getD i 0) ever U ?_ hP rfl (hD ▸ hG.start hlt) hK (by omega) (fun now' ever' U' lk' h1 h2 h3 => ?_) fun h => ⟨?_, fun d' lk' ever' h1 h2 => ?_⟩
      · exact Nat.le_of_lt (cW (by omega))
      · refine ih (i + 1) k (d.set i now') lk' ever' U' (by omega) (by omega) (hG.next hL hlt h1) h3 h2 (fun d' U'' h hl => hok d' U'' ?_ hl) fun h => hbad fun d' U'' h' => h d' U'' ?_
        · rw [iA, h1]; exact h
        · rw [iA, h1] at h'; exact h'
      · exact hbad fun d' U' h' => by rw [iA, h] at h'; simp at h'
      · exact aJs Q (hbad fun d' U' h' => by rw [iA, h] at h'; simp at h') (by omega) n (i + 1) k d' lk' ever' (by omega) (by omega) h1 h2

include hLn in
theorem aEk (hT : tA t.Slots) (hL : LOK L) (h32 : t.Slots.length ≤ 32) (hLl : L.length ≤ 500) {lk : List (aE × Int)} (hK : LK L lk [])
    (hok : ∀ d U, iA L t.Slots.length 0 t.Slots t.Slots [] = some (d, U) → U.length = L.length → Q (true, d, []))
    (hbad : (∀ d U, iA L t.Slots.length 0 t.Slots t.Slots [] = some (d, U) → U.length ≠ L.length) → ∀ d lk, Q (false, d, lk)) : iZ t t.Slots lk Q := by
  have hlk : lk.length ≤ 500 := by
    have := lH hK.nd (fun x hx => ((hK.mem x).1 hx).1)
    rw [List.length_map] at this
    omega
  unfold iZ
  refine ⟨t.Slots, by unfold jV; rw [gB (by simp; omega)]; rfl, ?_⟩
  exact aFk hLn Q hL rfl (by omega) hLl t.Slots.length 0 BIG t.Slots lk t.Slots [] (by omega) (cW (by omega)) (vD L hT) ⟨rfl, by omega, fun x hx => hx, hK.nd⟩ hK hok hbad
end
end Go.Am
