/- Layer 7, plain: the lucky ones replace; the reference's Players. -/
import Derived.Test.YtenffgkkeafnpaaBrPlain3
namespace Go.Am

def fP (L : List aE) (i now : Int) : List aE := L.filter fun s => decide (s.Place = i) && decide (s.Old = now)
/-- One slot: who plays there at last, who ever played, which slips were used. -/
def gS (L : List aE) (i : Int) : Nat → Int → List Int → List aE → Option (Int × List Int × List aE)
  | 0, _, _, _ => none
  | n + 1, now, ever, U => match fP L i now with
    | [] => some (now, ever, U)
    | [s] => if s.Player ∈ ever then none else gS L i n s.Player (ever ++ [s.Player]) (U ++ [s])
    | _ :: _ :: _ => none
/-- What holds in a slot. -/
structure SI (L : List aE) (T : Nat) (i now : Int) (ever : List Int) (U : List aE) : Prop where
  un : U.Nodup
  us : ∀ u ∈ U, u ∈ L
  ne : now ∈ ever
  pl : ∀ u ∈ U, u.Place ≤ i
  old : ∀ u ∈ U, u.Place = i → u.Old ∈ ever ∧ u.Old ≠ now
  el : ever.length = T + U.length
theorem lH {α : Type} [DecidableEq α] : ∀ {l m : List α}, l.Nodup → (∀ x ∈ l, x ∈ m) → l.length ≤ m.length
  | [], _, _, _ => by simp
  | a :: l, m, hn, hs => by
    rw [List.nodup_cons] at hn
    have hm : a ∈ m := hs a (by simp)
    have := lH (l := l) (m := m.erase a) hn.2 fun x hx => (List.mem_erase_of_ne (show x ≠ a from fun e => hn.1 (e ▸ hx))).2 (hs x (by simp [hx]))
    rw [List.length_erase_of_mem hm] at this
    have : 0 < m.length := List.length_pos_of_mem hm
    simp only [List.length_cons]; omega
theorem mT {L : List aE} {i now : Int} {s : aE} : s ∈ fP L i now ↔ s ∈ L ∧ s.Place = i ∧ s.Old = now := by simp [fP]
theorem SI.next {L : List aE} {T : Nat} {i now : Int} {ever : List Int} {U : List aE} (h : SI L T i now ever U) {s : aE} (hs : s ∈ fP L i now) (hp : s.Player ∉ ever) :
    SI L T i s.Player (ever ++ [s.Player]) (U ++ [s]) := by
  obtain ⟨h1, h2, h3, h4, h5, h6⟩ := h
  obtain ⟨m1, m2, m3⟩ := mT.1 hs
  have hsu : s ∉ U := fun hu => (h5 s hu m2).2 m3
  refine ⟨List.nodup_append.2 ⟨h1, by simp, fun x hx y hy => ?_⟩, fun u hu => ?_, by simp, fun u hu => ?_, fun u hu hpl => ?_, by simp; omega⟩
  · simp at hy; subst hy; exact fun e => hsu (e ▸ hx)
  · rcases List.mem_append.1 hu with hu | hu
    · exact h2 u hu
    · simp at hu; exact hu ▸ m1
  · rcases List.mem_append.1 hu with hu | hu
    · exact h4 u hu
    · simp at hu; subst hu; omega
  · rcases List.mem_append.1 hu with hu | hu
    · obtain ⟨a, b⟩ := h5 u hu hpl
      exact ⟨List.mem_append_left _ a, fun e => hp (e ▸ a)⟩
    · simp at hu; subst hu
      exact ⟨List.mem_append_left _ (m3 ▸ h3), fun e => hp (e ▸ m3 ▸ h3)⟩
theorem SI.le {L : List aE} {T : Nat} {i now : Int} {ever : List Int} {U : List aE} (h : SI L T i now ever U) : U.length ≤ L.length := lH h.un h.us

/-- All slots from i on: n of them. -/
def iA (L : List aE) : Nat → Nat → List Int → List Int → List aE → Option (List Int × List aE)
  | 0, _, d, _, U => some (d, U)
  | n + 1, i, d, ever, U => match gS L i (L.length + 1) (d.getD i 0) ever U with
    | none => none
    | some (now, ever', U') => iA L n (i + 1) (d.set i now) ever' U'

section
variable {t : aO} {l : List aE} (hl : l.length ≤ 1000) (h32 : t.Slots.length ≤ 32)

theorem aMk (o : List Int) (ho : o.length ≤ 2000) (v : Int) : nM o v = some (decide (v ∈ o)) := by
  unfold nM
  have := eQ (S := Unit) (fun k i _ => iI o v k i) o.length (fun i _ => some (decide (v ∈ o.drop i))) (fun _ _ => True) ?_ ?_ BIG () (cW (by omega)) trivial
  · simpa using this
  · intro k i _ hi _ ih
    have := ih () trivial
    simp only [iI, Int.ofNat_lt, hi, decide_true, cond_true, cK hi, Option.bind_some, cI (show i < 9223372036854775807 by omega), this]
    have e : o.drop i = o[i] :: o.drop (i + 1) := List.drop_eq_getElem_cons hi
    by_cases h : o[i] = v
    · simp [h, e]
    · have : v ∈ o.drop i ↔ v ∈ o.drop (i + 1) := by
        rw [e, List.mem_cons]
        exact ⟨fun q => q.resolve_left fun e => h e.symm, .inr⟩
      simp [h, this]
  · intro k _ _
    simp [iI, pL]

include hl in
/-- The candidates of a slot. -/
theorem aHv (a0 : Int → Int → List Int → List Int → Option (List Int × Bool)) (a2 : Int → Int → Bool → List Int → Option (List Int × Bool)) (used i now : Int) (ag : Bool) (out ever : List Int) :
    eD a0 a2 (cA l) used i now ag t out ever BIG 0 [] = iP a0 a2 (cA l) used i now ag t out ((fP (dD l) i now).map (·.Player)) ever := by
  have hol := sB l
  have := eQ (S := List Int) (fun k j nx => eD a0 a2 (cA l) used i now ag t out ever k j nx) (cA l).length
    (fun j nx => iP a0 a2 (cA l) used i now ag t out (nx ++ (fP (((cA l).drop j).filter isL) i now).map (·.Player)) ever) (fun j nx => nx.length ≤ j) ?_ ?_ BIG [] (cW (by omega)) (by simp)
  · simpa [dD] using this
  · intro k j nx hj hI ih
    have hj' : j < 1000 := by omega
    rw [List.drop_eq_getElem_cons hj, List.filter_cons]
    simp only [eD, Int.ofNat_lt, hj, decide_true, cond_true, cK hj, Option.bind_some, cI (show j < 9223372036854775807 by omega), fN]
    by_cases hk : (cA l)[j].Kind = 5
    · have hL : isL (cA l)[j] = true := by simp [isL, hk]
      simp only [hk, hL, decide_true, if_true, Bool.true_and]
      unfold fP
      rw [List.filter_cons]
      cases hc : (decide ((cA l)[j].Place = i) && decide ((cA l)[j].Old = now)) with
      | false =>
        simp only [cond_false, Bool.false_eq_true, if_false]
        exact ih nx (by omega)
      | true =>
        simp only [cond_true, if_true]
        rw [gB (by simp; omega), Option.bind_some, ih _ (by simp; omega)]
        simp [fP]
    · have hL : isL (cA l)[j] = false := by simp [isL, hk]
      simp only [hk, hL, decide_false, Bool.false_and, cond_false, Bool.false_eq_true, if_false]
      exact ih nx (by omega)
  · intro k nx _
    simp [eD, fP]

include hl h32 in
theorem aKq (a0 : Int → Int → List Int → List Int → Option (List Int × Bool)) (i : Int) (out : List Int) :
    ∀ n k now ever U, SI (dD l) t.Slots.length i now ever U → (dD l).length < n + U.length → n < k →
    eP a0 (cA l) i t out k U.length now true ever = match gS (dD l) i n now ever U with
      | none => some ([], false)
      | some (now', ever', U') => kJ a0 (cA l) U'.length i now' t out ever' := by
  have hLl : (dD l).length ≤ 1000 := by
    have h1 := sB l
    have h2 : (dD l).length ≤ (cA l).length := List.length_filter_le _ _
    omega
  intro n
  induction n with
  | zero =>
    intro k now ever U hS hn hk
    have := hS.le
    omega
  | succ n ih =>
    intro k now ever U hS hn hk
    cases k with
    | zero => omega
    | succ k =>
      have hU := hS.le
      have hel := hS.el
      simp only [eP, cond_true, aHv hl, gS]
      unfold iP
      cases hc : fP (dD l) i now with
      | nil =>
        simp only [List.map_nil, List.length_nil, gU]
        simp only [Int.natCast_zero, show decide ((1 : Int) < 0) = false by decide, show decide ((0 : Int) = 1) = false by decide, cond_false, Option.bind_some]
        cases k with
        | zero => omega
        | succ k => simp [eP]
      | cons s cs =>
        cases cs with
        | cons s2 cs =>
          simp only [List.map_cons, List.length_cons]
          have : decide ((1 : Int) < ((((cs.map (·.Player)).length + 1 + 1 : Nat)) : Int)) = true := decide_eq_true (by omega)
          rw [this]
          rfl
        | nil =>
          have hs : s ∈ fP (dD l) i now := by rw [hc]; simp
          simp only [List.map_cons, List.map_nil, List.length_cons, List.length_nil, gU, zM, Option.bind_some, aMk ever (by omega)]
          simp only [Nat.zero_add, Int.natCast_one, show decide ((1 : Int) < 1) = false by decide, decide_true, cond_true, cond_false, Option.bind_some]
          by_cases hp : s.Player ∈ ever
          · simp [hp]
          · simp only [hp, decide_false, cond_false, if_false]
            rw [gB (by simp; omega), Option.bind_some, eT (by omega) (by omega)]
            have := ih k s.Player (ever ++ [s.Player]) (U ++ [s]) (hS.next hs hp) (by simp; omega) (by omega)
            have e : (((U ++ [s]).length : Nat) : Int) = (U.length : Int) + 1 := by simp
            rw [e] at this
            exact this
end
end Go.Am
