/- Layer 7, plain: where a player comes from; slips that are some of others. -/
import Derived.Test.YtenffgkkeafnpaaBrPlain11
namespace Go.Am

/-- Who played in the draw, and where. -/
structure HB (S ever : List Int) (U : List aE) : Prop where
  se : ∀ x ∈ S, x ∈ ever
  ue : ∀ u ∈ U, u.Player ∈ ever
  us : ∀ u ∈ U, u.Player ∉ S
  uu : ∀ u ∈ U, ∀ v ∈ U, u.Player = v.Player → u = v
def aDa (S : List Int) (U : List aE) (i : Nat) (x : Int) : Prop := x = S.getD i 0 ∨ ∃ u ∈ U, u.Place = (i : Int) ∧ u.Player = x
theorem HB.next {S ever : List Int} {U : List aE} (h : HB S ever U) {s : aE} (hp : s.Player ∉ ever) : HB S (ever ++ [s.Player]) (U ++ [s]) := by
  refine ⟨fun x hx => List.mem_append_left _ (h.se x hx), fun u hu => ?_, fun u hu => ?_, fun u hu v hv e => ?_⟩
  · rcases List.mem_append.1 hu with hu | hu
    · exact List.mem_append_left _ (h.ue u hu)
    · simp at hu; subst hu; simp
  · rcases List.mem_append.1 hu with hu | hu
    · exact h.us u hu
    · simp at hu; subst hu; exact fun hs => hp (h.se _ hs)
  · rcases List.mem_append.1 hu with hu | hu
    · rcases List.mem_append.1 hv with hv | hv
      · exact h.uu u hu v hv e
      · simp at hv; subst hv; exact absurd (e ▸ h.ue _ ‹u ∈ U›) hp
    · simp at hu; subst hu
      rcases List.mem_append.1 hv with hv | hv
      · exact absurd (e ▸ h.ue v hv) hp
      · simp at hv; exact hv.symm
theorem aBh {L : List aE} {S : List Int} {i : Nat} : ∀ {n : Nat} {now : Int} {ever : List Int} {U : List aE} {now' : Int} {ever' : List Int} {U' : List aE},
    HB S ever U → aDa S U i now → gS L i n now ever U = some (now', ever', U') → HB S ever' U' ∧ aDa S U' i now' ∧ (∀ u ∈ U, u ∈ U')
  | 0, _, _, _, _, _, _, _, _, h => by simp [gS] at h
  | n + 1, now, ever, U, now', ever', U', hB, hH, h => by
    unfold gS at h
    cases hc : fP L i now with
    | nil =>
      rw [hc] at h
      simp only [Option.some.injEq, Prod.mk.injEq] at h
      obtain ⟨rfl, rfl, rfl⟩ := h
      exact ⟨hB, hH, fun u hu => hu⟩
    | cons s cs =>
      cases cs with
      | cons s2 cs => simp [hc] at h
      | nil =>
        have hs : s ∈ fP L i now := by rw [hc]; simp
        obtain ⟨m1, m2, m3⟩ := mT.1 hs
        rw [hc] at h
        by_cases hp : s.Player ∈ ever
        · simp [hp] at h
        · simp only [hp, if_false] at h
          obtain ⟨r1, r2, r3⟩ := aBh (hB.next hp) (.inr ⟨s, by simp, m2, rfl⟩) h
          exact ⟨r1, r2, fun u hu => r3 u (List.mem_append_left _ hu)⟩
theorem aAz {L : List aE} {S : List Int} : ∀ {n i : Nat} {d ever : List Int} {U : List aE} {d' : List Int} {U' : List aE}, i + n ≤ d.length → HB S ever U → (∀ j, j < d.length → aDa S U j (d.getD j 0)) →
    iA L n i d ever U = some (d', U') → ∃ ever', HB S ever' U' ∧ (∀ j, j < d'.length → aDa S U' j (d'.getD j 0))
  | 0, i, d, ever, U, d', U', hn, hB, hH, he => by
    simp only [iA, Option.some.injEq, Prod.mk.injEq] at he
    obtain ⟨rfl, rfl⟩ := he
    exact ⟨ever, hB, hH⟩
  | n + 1, i, d, ever, U, d', U', hn, hB, hH, he => by
    unfold iA at he
    have hid : i < d.length := by omega
    cases hs : gS L i (L.length + 1) (d.getD i 0) ever U with
    | none => rw [hs] at he; simp at he
    | some q =>
      obtain ⟨now', ever', U1⟩ := q
      rw [hs] at he
      obtain ⟨r1, r2, r3⟩ := aBh hB (hH i hid) hs
      refine aAz (by rw [List.length_set]; omega) r1 (fun j hj => ?_) he
      rw [List.length_set] at hj
      rw [jH hid]
      split
      · rename_i e; subst e; exact r2
      · rcases hH j hj with h | ⟨u, hu, h⟩
        · exact .inl h
        · exact .inr ⟨u, r3 u hu, h⟩

/-- The lucky slips of a draw, and where its players come from. -/
structure HD (t : aO) (l : List aE) (d : List Int) : Prop where
  us : ∀ u ∈ dD l, u.Player ∉ t.Slots
  uu : ∀ u ∈ dD l, ∀ v ∈ dD l, u.Player = v.Player → u = v
  home : ∀ j, j < d.length → aDa t.Slots (dD l) j (d.getD j 0)
theorem aFi {t : aO} (ht : TreeOK t) {l : List aE} (hs : ∀ s ∈ l, eL t s = true) {d : List Int} (h : kG t l = some d) : HD t l d := by
  unfold kG at h
  split at h
  · rename_i d' U hr
    split at h
    · rename_i hU
      cases h
      have hL := zX hs
      obtain ⟨ever, hI⟩ := vZ hL (vD (dD l) (sT ht)) (by omega) hr
      have hall : ∀ u, u ∈ U ↔ u ∈ dD l := fun u => by
        refine ⟨hI.us u, fun hu => Classical.byContradiction fun hn => ?_⟩
        have := lH (l := u :: U) (m := dD l) (List.nodup_cons.2 ⟨hn, hI.un⟩) fun x hx => by
          rcases List.mem_cons.1 hx with rfl | hx
          · exact hu
          · exact hI.us x hx
        simp only [List.length_cons] at this
        omega
      obtain ⟨ever', hB, hH⟩ := aAz (S := t.Slots) (by omega) ⟨fun x hx => hx, by simp, by simp, by simp⟩ (fun j _ => .inl rfl) hr
      refine ⟨fun u hu => hB.us u ((hall u).2 hu), fun u hu v hv => hB.uu u ((hall u).2 hu) v ((hall v).2 hv), fun j hj => ?_⟩
      rcases hH j hj with h | ⟨u, hu, h⟩
      · exact .inl h
      · exact .inr ⟨u, (hall u).1 hu, h⟩
    · cases h
  · cases h
/-- A player is in the same slot for some of the slips. -/
theorem HD.same {t : aO} (ht : TreeOK t) {l l' : List aE} {d d' : List Int} (h : HD t l d) (h' : HD t l' d') (hl : d.length = t.Slots.length) (hl' : d'.length = t.Slots.length) (hsub : ∀ s ∈ l', s ∈ l) {a b : Nat} (ha : a < d'.length) (hb : b < d.length)
    (e : d'.getD a 0 = d.getD b 0) (hn : d.getD b 0 ≠ -1) : a = b := by
  have hL : ∀ u ∈ dD l', u ∈ dD l := fun u hu => by
    simp only [dD, List.mem_filter, kW] at hu ⊢
    exact ⟨hsub u hu.1, hu.2⟩
  have hSm : ∀ j, j < t.Slots.length → t.Slots.getD j 0 ∈ t.Slots := fun j hj => vN hj
  rcases h'.home a ha with e1 | ⟨u, hu, e1, e2⟩
  · rcases h.home b hb with e3 | ⟨v, hv, e3, e4⟩
    · have hab : t.Slots.getD a 0 = t.Slots.getD b 0 := by rw [← e1, ← e3, e]
      have ha' : a < t.Slots.length := hl' ▸ ha
      have hb' : b < t.Slots.length := hl ▸ hb
      rw [bP ha', bP hb'] at hab
      rw [e3, bP hb'] at hn
      rcases Nat.lt_trichotomy a b with hlt | rfl | hlt
      · exact absurd (ht.dup b hb' a hlt hab) hn
      · rfl
      · exact absurd (hab ▸ ht.dup a ha' b hlt hab.symm) hn
    · exact absurd (by rw [e4, ← e, e1]; exact hSm a (hl' ▸ ha)) (h.us v hv)
  · rcases h.home b hb with e3 | ⟨v, hv, e3, e4⟩
    · exact absurd (by rw [e2, e, e3]; exact hSm b (hl ▸ hb)) (h.us u (hL u hu))
    · have := h.uu u (hL u hu) v hv (by rw [e2, e4, e])
      subst this
      omega

theorem Good.home {t : aO} {l : List aE} {d : List Int} (h : Good t l d) : HD t l d := aFi h.ht h.slips h.agr.1
/-- All matches. -/
def dE (t : aO) : List (Nat × Nat) := (List.range t.Rounds.toNat).flatMap fun r : Nat => (List.range (bZ t r)).map fun p : Nat => (r, p)
def iY (d : List Int) (must : List (List Int)) (x : Nat × Nat) : bA := ⟨x.1, x.2, dJ d must x.1 (2 * x.2), dJ d must x.1 (2 * x.2 + 1)⟩
theorem kT (t : aO) (d : List Int) (must : List (List Int)) : dK t d must = (dE t).map (iY d must) := by
  unfold dK dE
  rw [List.map_flatMap]
  congr 1
  funext r
  rw [List.map_map]
  rfl
theorem lG {t : aO} {x : Nat × Nat} : x ∈ dE t ↔ x.1 < t.Rounds.toNat ∧ x.2 < bZ t x.1 := by
  simp only [dE, List.mem_flatMap, List.mem_range, List.mem_map]
  constructor
  · rintro ⟨r, hr, p, hp, rfl⟩; exact ⟨hr, hp⟩
  · rintro ⟨hr, hp⟩; exact ⟨x.1, hr, x.2, hp, rfl⟩
theorem vQ (t : aO) : (dE t).Nodup := by
  have key : ∀ n, ((List.range n).flatMap fun r : Nat => (List.range (bZ t r)).map fun p => (r, p)).Nodup := by
    intro n
    induction n with
    | zero => simp
    | succ n ih =>
      rw [qA]
      refine List.nodup_append.2 ⟨ih, ?_, fun x hx y hy e => ?_⟩
      · exact List.Pairwise.map _ (fun a b hab e => hab (congrArg Prod.snd e)) List.nodup_range
      · simp only [List.mem_flatMap, List.mem_range, List.mem_map] at hx hy
        obtain ⟨r, hr, p, hp, rfl⟩ := hx
        obtain ⟨q, hq, rfl⟩ := hy
        have := congrArg Prod.fst e
        simp at this
        omega
  exact key _
end Go.Am
