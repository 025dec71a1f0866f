/- The theorem of the first hour, plainly. -/
import Derived.Test.YtfdappeickbpeaaGreatEntryOrderLaw
namespace Go.Am

/-- That the list is frozen does not change where anyone stands. -/
theorem aGk {f : aT} {l : aJ} {i : Nat} (h : iT f l i) (hour p : Int) : eI (tV hour l) p = eI l p := by
  unfold tV
  cases decide (l.Field.Freeze < hour) with
  | false => rfl
  | true =>
    simp only [cond_true]
    unfold jF
    cases hz : l.frozen with
    | true => rfl
    | false =>
      simp only [cond_false]
      have hl := (h.fz hz).2
      have hm : jG { l with frozen := true, first := kA l } = jG l := by
        unfold jG
        simp only [hz, cond_true, cond_false, hl, List.append_nil]
      have ho : pW { l with frozen := true, first := kA l } = pW l := by
        unfold pW
        rw [hm]
        rfl
      unfold eI
      rw [hm, ho]
theorem aFb (f : aT) (p : Int) : eI (fI f) p = (0, 0) := by
  have he : fW (fI f) = [] := by
    refine List.eq_nil_iff_forall_not_mem.2 fun n hn => ?_
    have := xG.1 hn
    simp [isE, fI, aE] at this
  have hm : jG (fI f) = [] := by
    unfold jG
    simp only [show (fI f).frozen = false from rfl, cond_false, kA, he, uE]
  have ho : pW (fI f) = [] := by unfold pW; rw [he]; rfl
  unfold eI
  rw [hm, ho]
  rfl
theorem aCt (a b c : List Int) (p : Int) : (kZ a b c p).1 = 0 ∨ (kZ a b c p).1 = 1 ∨ (kZ a b c p).1 = 2 ∨ (kZ a b c p).1 = 3 := by
  unfold kZ
  cases decide (0 ≤ fL (fun x => decide (p = x)) a) with
  | true => exact .inr (.inl rfl)
  | false =>
    cases decide (0 ≤ fL (fun x => decide (p = x)) b) with
    | true => exact .inr (.inr (.inl rfl))
    | false =>
      cases decide (0 ≤ fL (fun x => decide (p = x)) c) with
      | true => exact .inr (.inr (.inr rfl))
      | false => exact .inl rfl
/-- The run takes the notices of the hour and before. -/
theorem xR (hour : Int) : ∀ (t : List aK) (l : aJ), t.Pairwise (fun x y => fS x < fS y) → (∀ x ∈ t, bN x) → lX hour l t = (t.filter fun x => decide (x.Hour ≤ hour)).foldl uK l
  | [], _, _, _ => rfl
  | x :: t, l, hs, hb => by
    have h1 := List.pairwise_cons.1 hs
    by_cases h : x.Hour ≤ hour
    · rw [List.filter_cons_of_pos (by simpa using h), List.foldl_cons]
      simp only [lX, show decide (hour < x.Hour) = false from decide_eq_false (by omega), cond_false]
      exact xR hour t _ h1.2 fun y hy => hb y (by simp [hy])
    · rw [List.filter_cons_of_neg (by simpa using h)]
      have hno : t.filter (fun x => decide (x.Hour ≤ hour)) = [] := by
        rw [List.filter_eq_nil_iff]
        intro y hy
        have k := h1.1 y hy
        have b1 := hb x (by simp)
        have b2 := hb y (by simp [hy])
        unfold bN at b1 b2
        unfold fS at k
        simp
        omega
      rw [hno]
      simp only [lX, show decide (hour < x.Hour) = true from decide_eq_true (by omega), cond_true, List.foldl_nil]
/-- At each hour the run is that of some notice, or none. -/
theorem aJu (hour : Int) (t : List aK) (l : aJ) (hs : t.Pairwise fun x y => fS x < fS y) (hb : ∀ x ∈ t, bN x) : lX hour l t = l ∨ ∃ y ∈ t, y.Hour ≤ hour ∧ lX hour l t = lX y.Hour l t := by
  rw [xR hour t l hs hb]
  rcases List.eq_nil_or_concat (t.filter fun x => decide (x.Hour ≤ hour)) with h | ⟨A, y, h⟩
  · left
    rw [h]; rfl
  · right
    rw [List.concat_eq_append] at h
    have hy : y ∈ t.filter fun x => decide (x.Hour ≤ hour) := by rw [h]; simp
    have hy2 := List.mem_filter.1 hy
    have hyh : y.Hour ≤ hour := by simpa using hy2.2
    refine ⟨y, hy2.1, hyh, ?_⟩
    rw [xR y.Hour t l hs hb]
    congr 1
    refine List.filter_congr fun z hz => ?_
    rw [Bool.eq_iff_iff]
    simp only [decide_eq_true_eq]
    constructor
    · intro hzh
      have hzF : z ∈ A ++ [y] := by rw [← h]; exact List.mem_filter.2 ⟨hz, by simpa using hzh⟩
      have hsF : (A ++ [y]).Pairwise fun x y => fS x < fS y := by rw [← h]; exact hs.filter _
      rcases List.mem_append.1 hzF with hzA | hzy
      · have k := (List.pairwise_append.1 hsF).2.2 z hzA y (by simp)
        have b1 := hb z hz
        have b2 := hb y hy2.1
        unfold bN at b1 b2
        unfold fS at k
        omega
      · simp at hzy; subst hzy; exact Int.le_refl _
    · intro h2; omega
theorem aHy {f : aT} {l : List aK} (h : VL f l) (hour p : Int) : eI (dI f l hour) p = (0, 0) ∨ ∃ y ∈ l, y.Hour ≤ hour ∧ eI (dI f l hour) p = eI (dI f l y.Hour) p := by
  have hb : ∀ x ∈ l, bN x := fun x hx => aAy (h.nt x hx)
  have hT := uL l
  have hlen := h.len
  have good : ∀ k, ∃ j, j ≤ 60 ∧ iT f (lX k (fI f) (jQ l)) j := fun k => uH k (jQ l) (fI f) 0 (qO h.fd) (by omega) fun x hx => h.nt x ((nJ x).1 hx)
  have e : ∀ k, eI (dI f l k) p = eI (lX k (fI f) (jQ l)) p := fun k => by
    obtain ⟨j, _, hg⟩ := good k
    exact aGk hg k p
  rcases aJu hour (jQ l) (fI f) (uT hb h.id) (fun x hx => hb x ((nJ x).1 hx)) with h1 | ⟨y, hy, hyh, h1⟩
  · left
    rw [e, h1, aFb]
  · right
    exact ⟨y, (nJ y).1 hy, hyh, by rw [e, e, h1]⟩
theorem vM {l : List aK} {h : Int} : h ∈ nB l ↔ ∃ y ∈ l, y.Hour = h := by
  unfold nB
  rw [aBm, aGi, List.mem_map]
theorem aBw (l : List aK) : (nB l).Pairwise fun x y => x ≤ y := by
  have hs : (lZ (l.map fun x => x.Hour)).Pairwise fun x y => x ≤ y := by
    have := List.pairwise_mergeSort (le := fun x y : Int => decide (x ≤ y)) (by intro a b c; simp only [decide_eq_true_eq]; omega) (by intro a b; simp only [Bool.or_eq_true, decide_eq_true_eq]; omega) (l.map fun x => x.Hour)
    exact this.imp fun {x y} h => by simpa using h
  unfold nB
  cases hz : lZ (l.map fun x => x.Hour) with
  | nil => exact .nil
  | cons q t =>
    rw [hz] at hs
    exact hs.sublist ((aAj q t).cons_cons q)
theorem aHf {f : aT} {l : List aK} {p h : Int} : sZ f l p h = false → (eI (dI f l h) p).1 = 0 ∨ (eI (dI f l h) p).1 = 3 := by
  intro hf
  unfold sZ at hf
  simp only [Bool.or_eq_false_iff, decide_eq_false_iff_not] at hf
  rcases aCt (jG (dI f l h)) (dI f l h).wilds (pW (dI f l h)) p with h1 | h1 | h1 | h1
  · exact .inl h1
  · exact absurd h1 hf.1
  · exact absurd h1 hf.2
  · exact .inr h1
/-- Before the first hour the player is nowhere in. -/
theorem wU {f : aT} {l : List aK} (h : VL f l) (p hour : Int) (hno : ∀ y ∈ l, y.Hour ≤ hour → sZ f l p y.Hour = false) : (eI (dI f l hour) p).1 = 0 ∨ (eI (dI f l hour) p).1 = 3 := by
  rcases aHy h hour p with h1 | ⟨y, hy, hyh, h1⟩
  · left; rw [h1]
  · rw [h1]
    exact aHf (hno y hy hyh)
theorem aHa (l : List aK) (hl : l.length ≤ 60) (hour wh fi e : Int) (x : gA) (hK : gX hour wh fi e true x = some true) (hf : ∃ y ∈ l, y.Hour = hour) : dC l hour wh fi e x BIG false 0 = some true := by
  have key := pS (S := Bool) (fun k i s => dC l hour wh fi e x k s i) l.length (fun _ _ => some true) (fun i s => s = (l.take i).any fun y => decide (y.Hour = hour)) (fun k i s hi hI ih => ?_) (fun k s hI => ?_) BIG false (gU (by omega)) (by simp)
  · exact key
  · simp only [dC, show decide ((i : Int) < (l.length : Int)) = true by simpa using hi, cond_true, gG hi, Option.bind_some, oK, dZ (show i < 9223372036854775807 by omega)]
    refine ih _ ?_
    rw [hI, List.take_add_one, List.getElem?_eq_getElem hi, Option.toList_some, List.any_append]
    simp
  · have : s = true := by
      rw [hI, List.take_length]
      obtain ⟨y, hy, he⟩ := hf
      exact List.any_eq_true.2 ⟨y, hy, by simpa using he⟩
    subst this
    simp only [dC, Int.lt_irrefl, decide_false, cond_false]
    exact hK
theorem qU (f : aT) (l : List aK) (x : gA) (_ : yP f) (_ : (okL tD) l) (_ : rB x) : jC f l x = some true := by
  obtain ⟨r, hr, hv⟩ := aHr f l
  unfold jC
  rw [hr, aFs]
  simp only [Option.bind_some, oK, wF]
  cases hb : ((!r || !wi x.Hour 0 9999) || decide (x.Player < 0)) || decide (999 < x.Player) with
  | true => rfl
  | false =>
    simp only [cond_false]
    simp only [Bool.or_eq_false_iff, Bool.not_eq_false', decide_eq_false_iff_not] at hb
    obtain ⟨hV, hl⟩ := hv hb.1.1.1
    have hh := hb.1.1.2
    have hp : wi x.Player 0 999 = true := tQ.2 ⟨by omega, by omega⟩
    rw [aDo hV hp, Option.bind_some, aBf hV hh hp, Option.bind_some]
    cases hf : (nB l).find? (sZ f l x.Player) with
    | none =>
      have hno := wU hV x.Player x.Hour fun y hy _ => by
        have := List.find?_eq_none.1 hf y.Hour (vM.2 ⟨y, hy, rfl⟩)
        simpa using this
      have e1 : decide (((3 : Int)) = 0) = false := rfl
      simp only [e1, decide_true, Bool.not_true, cond_false, Bool.not_false, cond_true, Option.bind_some]
      rcases hno with h | h <;> rw [h] <;> rfl
    | some t =>
      have ht := List.find?_some hf
      have htm := List.mem_of_find?_eq_some hf
      obtain ⟨y, hy, hyt⟩ := vM.1 htm
      have hby := hV.nt y hy
      have hwt : wi t 0 9999 = true := by
        have := aAy hby
        unfold bN at this
        exact tQ.2 ⟨by omega, by omega⟩
      simp only [decide_true, Bool.not_true, cond_false, Option.bind_some, cond_true]
      rw [aBf hV hwt hp, Option.bind_some]
      refine aHa l (by omega) _ _ _ _ x ?_ ⟨y, hy, hyt⟩
      unfold gX
      have e2 : (decide ((eI (dI f l t) x.Player).1 = 1) || decide ((eI (dI f l t) x.Player).1 = 2)) = true := ht
      simp only [decide_true, cond_true, Option.bind_some, oK, e2, wF]
      have e3 : ((decide (t ≤ x.Hour) || decide ((eI (dI f l x.Hour) x.Player).1 = 0)) || decide ((eI (dI f l x.Hour) x.Player).1 = 3)) = true := by
        by_cases hle : t ≤ x.Hour
        · simp [hle]
        · have hno := wU hV x.Player x.Hour fun z hz hzh => by
            rw [List.find?_eq_some_iff_append] at hf
            obtain ⟨_, A, B, hAB, hA⟩ := hf
            have hzm : z.Hour ∈ A ++ t :: B := by rw [← hAB]; exact vM.2 ⟨z, hz, rfl⟩
            have hs := aBw l
            rw [hAB] at hs
            rcases List.mem_append.1 hzm with hzA | hzB
            · simpa using hA _ hzA
            · rcases List.mem_cons.1 hzB with h | h
              · omega
              · have := (List.pairwise_cons.1 (List.pairwise_append.1 hs).2.1).1 _ h
                omega
          rcases hno with h | h <;> simp [h]
      rw [e3]
      rfl
end Go.Am
