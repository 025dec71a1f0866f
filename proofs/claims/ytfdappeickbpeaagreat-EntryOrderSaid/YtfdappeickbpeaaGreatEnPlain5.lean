/- Entry, plainly: the entries in their order, and who gets the places by the list alone. -/
import Derived.Test.YtfdappeickbpeaaGreatEnPlain4
namespace Go.Am

abbrev zP : aA := aA.mk false false 0 0 false false false false
/-- What is known of a player. -/
def pl (l : aK) (n : Int) : aA := aE n zP l.players

/-- What holds of the lists that the program makes. -/
structure WF (l : aK) : Prop where
  fd : qD l.Field = true
  keys : (l.players.map Prod.fst).Nodup
  cnt : l.players.length ≤ 60
  ent : 0 ≤ l.entered ∧ l.entered ≤ 60
  mr : 0 ≤ l.more ∧ l.more ≤ 60
  turn : ∀ n, (pl l n).entered = true → 1 ≤ (pl l n).turn ∧ (pl l n).turn ≤ l.entered ∧ 0 ≤ (pl l n).rank ∧ (pl l n).rank ≤ 9999
  inj : ∀ n m, (pl l n).entered = true → (pl l m).entered = true → (pl l n).turn = (pl l m).turn → n = m

theorem yU {α β : Type} [DecidableEq α] {n : α} {z : β} : ∀ {m : List (α × β)}, n ∉ m.map Prod.fst → aE n z m = z
  | [], _ => rfl
  | (b, v) :: m, h => by
    simp only [List.map_cons, List.mem_cons, not_or] at h
    simp only [aE, h.1, decide_false, cond_false]
    exact yU h.2
theorem zU {l : aK} {n : Int} (h : (pl l n).entered = true) : n ∈ l.players.map Prod.fst := by
  refine Classical.byContradiction fun hn => ?_
  unfold pl at h
  rw [yU hn] at h
  cases h
theorem aGd (l : aK) (n : Int) : isE l.players n = ((pl l n).entered && !(pl l n).quit && !(pl l n).had) := rfl

/-- The order of the entries. -/
def iV (l : aK) (n : Int) : Int := (if (pl l n).rank = 0 then 10000 else (pl l n).rank) * 100 + (pl l n).turn
theorem or3 (a b c : Int) : lA [a, b, c] = some (if a ≠ 0 then a else if b ≠ 0 then b else c) := by
  obtain ⟨k, hk⟩ : ∃ k, BIG = k + 1 + 1 + 1 + 1 := ⟨BIG - 4, by unfold BIG; omega⟩
  unfold lA
  rw [show ((([a, b, c] : List Int).length : Nat) : Int) = 3 from rfl, hk]
  simp only [kY, oD, show decide ((0 : Int) < 3) = true from rfl, cond_true, show idx [a, b, c] 0 = some a from rfl, Option.bind_some, show w64 (0 + 1) = 1 from rfl, show decide ((1 : Int) < 3) = true from rfl, show idx [a, b, c] 1 = some b from rfl, show w64 (1 + 1) = 2 from rfl, show decide ((2 : Int) < 3) = true from rfl, show idx [a, b, c] 2 = some c from rfl, show w64 (2 + 1) = 3 from rfl, show decide ((3 : Int) < 3) = false from rfl, cond_false]
  by_cases h : a = 0
  · subst h
    by_cases h2 : b = 0
    · subst h2
      by_cases h3 : c = 0
      · subst h3; simp
      · simp [h3]
    · simp [h2]
  · simp [h]
theorem aJe (p : aA) : fS p = some (if p.rank = 0 then 1 else 0) := by
  unfold fS
  by_cases h : p.rank = 0 <;> simp [h]
theorem aJu {l : aK} (h : WF l) {a b : Int} (ha : (pl l a).entered = true) (hb : (pl l b).entered = true) : ∃ r, dI a b l = some r ∧ (r < 0 ↔ iV l a < iV l b) := by
  obtain ⟨a1, a2, a3, a4⟩ := h.turn a ha
  obtain ⟨b1, b2, b3, b4⟩ := h.turn b hb
  have he := h.ent.2
  unfold dI
  rw [show (aE a (aA.mk false false 0 0 false false false false) l.players) = pl l a from rfl, show (aE b (aA.mk false false 0 0 false false false false) l.players) = pl l b from rfl]
  simp only [aJe, Option.bind_some]
  rw [gV (by split <;> split <;> omega) (by split <;> split <;> omega), gV (by omega) (by omega), gV (by omega) (by omega), or3]
  refine ⟨_, rfl, ?_⟩
  unfold iV
  by_cases h1 : (pl l a).rank = 0 <;> by_cases h2 : (pl l b).rank = 0 <;> simp only [h1, h2, if_true, if_false] <;> (repeat' split) <;> constructor <;> intro h3 <;> omega
theorem ltE {l : aK} (h : WF l) {a b : Int} (ha : (pl l a).entered = true) (hb : (pl l b).entered = true) : ltO (fun a b => dI a b l) a b = decide (iV l a < iV l b) := by
  obtain ⟨r, h1, h2⟩ := aJu h ha hb
  unfold ltO
  simp only [h1]
  rw [Bool.eq_iff_iff]
  simpa using h2
theorem xT {l : aK} (h : WF l) {a b : Int} (ha : (pl l a).entered = true) (hb : (pl l b).entered = true) (he : iV l a = iV l b) : a = b := by
  obtain ⟨a1, a2, a3, a4⟩ := h.turn a ha
  obtain ⟨b1, b2, b3, b4⟩ := h.turn b hb
  have he2 := h.ent.2
  refine h.inj a b ha hb ?_
  unfold iV at he
  split at he <;> split at he <;> omega

/-- All entries, as they lie in the map. -/
def nT (l : aK) : List Int := (l.players.filter fun p => isE l.players p.1).map Prod.fst
def gS (l : aK) : List Int := dA (fun a b => dI a b l) (nT l)
theorem uU {l : aK} {n : Int} : n ∈ nT l ↔ isE l.players n = true := by
  unfold nT
  constructor
  · intro h
    obtain ⟨p, hp, rfl⟩ := List.mem_map.1 h
    exact (List.mem_filter.1 hp).2
  · intro h
    have he : (pl l n).entered = true := by
      rw [aGd] at h
      simp only [Bool.and_eq_true] at h
      exact h.1.1
    obtain ⟨p, hp, rfl⟩ := List.mem_map.1 (zU he)
    exact List.mem_map.2 ⟨p, List.mem_filter.2 ⟨hp, h⟩, rfl⟩
theorem sP {l : aK} {n : Int} (h : n ∈ nT l) : (pl l n).entered = true := by
  have := uU.1 h
  rw [aGd] at this
  simp only [Bool.and_eq_true] at this
  exact this.1.1
theorem aEm {l : aK} (h : WF l) : oJ (nT l) (fun a b => dI a b l) = true := by
  unfold oJ
  simp only [List.all_eq_true, Bool.and_eq_true, Bool.or_eq_true, Bool.not_eq_true', decide_eq_true_eq]
  intro x hx
  have ex := sP hx
  refine ⟨by rw [ltE h ex ex]; simp, fun y hy => ?_⟩
  have ey := sP hy
  refine ⟨⟨?_, ?_⟩, fun z hz => ?_⟩
  · obtain ⟨r, h1, _⟩ := aJu h ex ey
    simp [h1]
  · rw [ltE h ex ey, ltE h ey ex]
    simp only [decide_eq_true_eq]
    rcases Int.lt_trichotomy (iV l x) (iV l y) with h1 | h1 | h1
    · exact .inl (.inr h1)
    · exact .inl (.inl (xT h ex ey h1))
    · exact .inr h1
  · have ez := sP hz
    rw [ltE h ex ey, ltE h ey ez, ltE h ex ez]
    simp only [Bool.and_eq_false_iff, decide_eq_false_iff_not, decide_eq_true_eq]
    omega
theorem rO {l : aK} (h : WF l) : dX l = some (gS l) := by
  have e1 : (fun p : Int × aA => (eL l.players p.1).getD false) = fun p => isE l.players p.1 := by
    funext p
    rw [rP]; rfl
  have hc := h.cnt
  have hl : (nT l).length ≤ 60 := by
    unfold nT
    rw [List.length_map]
    exact Nat.le_trans (List.length_filter_le _ _) hc
  unfold dX
  rw [if_pos (by omega), e1]
  unfold oL
  rw [if_pos ⟨aEm h, by show (nT l).length < _; omega⟩]
  rfl
theorem aBz {l : aK} {n : Int} : n ∈ gS l ↔ isE l.players n = true := by
  unfold gS
  rw [(gU _ _).mem_iff]
  exact uU
theorem oN {l : aK} (h : WF l) : (gS l).length ≤ 60 := by
  unfold gS
  rw [(gU _ _).length_eq]
  unfold nT
  rw [List.length_map]
  exact Nat.le_trans (List.length_filter_le _ _) h.cnt
theorem aBy {l : aK} {n : Int} (h : n ∈ gS l) : (pl l n).entered = true := sP (uU.2 (aBz.1 h))
theorem aDt {l : aK} (h : WF l) : (gS l).Pairwise fun a b => iV l a < iV l b := by
  have hs := oK (aEm h)
  have hn : (gS l).Nodup := by
    refine (gU _ _).nodup_iff.2 ?_
    unfold nT
    refine List.Nodup.sublist ?_ h.keys
    exact (List.filter_sublist).map _
  refine List.Pairwise.imp_of_mem (fun {a b} ha hb hab => ?_) (hs.and hn)
  have ea := aBy (l := l) ha
  have eb := aBy (l := l) hb
  rw [ltE h eb ea] at hab
  have h1 := hab.1
  simp at h1
  rcases Int.lt_or_eq_of_le h1 with h2 | h2
  · exact h2
  · exact absurd (xT h ea eb h2) hab.2
/-- How many of some players are protected. -/
def gd (l : aK) (xs : List Int) : Nat := (xs.filter fun n => (pl l n).guard).length
theorem aAr (l : aK) (xs : List Int) (hb : xs.length ≤ 1000) : gI l xs = some ((gd l xs : Nat) : Int) := by
  have key := oT (S := Int) (fun k i s => eK l xs (xs.length : Int) k s i) xs.length (fun i s => some (s + ((gd l (xs.drop i) : Nat) : Int))) (fun i s => 0 ≤ s ∧ s ≤ i) (fun k i s hi hI ih => ?_) (fun k s hI => ?_) BIG 0 (gG (by omega)) ⟨Int.le_refl _, Int.le_refl _⟩
  · unfold gI
    rw [key]
    simp
  · have hlt : decide ((i : Int) < (xs.length : Int)) = true := decide_eq_true (by omega)
    simp only [eK, hlt, cond_true, eP hi, Option.bind_some, dV (show i < 9223372036854775807 by omega)]
    rw [show (aE xs[i] (aA.mk false false 0 0 false false false false) l.players) = pl l xs[i] from rfl]
    have hd : gd l (xs.drop i) = (if (pl l xs[i]).guard then 1 else 0) + gd l (xs.drop (i + 1)) := by
      unfold gd
      rw [List.drop_eq_getElem_cons hi, List.filter_cons]
      split <;> simp <;> omega
    rw [hd]
    cases (pl l xs[i]).guard with
    | true =>
      simp only [cond_true, if_true]
      rw [gV (by omega) (by omega), ih _ ⟨by omega, by omega⟩]
      congr 1
      omega
    | false =>
      simp only [cond_false, Bool.false_eq_true, if_false]
      rw [ih _ ⟨by omega, by omega⟩]
      congr 1
      omega
  · simp [eK, lV, gd]

def plc (l : aK) : Int := l.Field.Places + l.more
theorem tH {l : aK} (h : WF l) : dR l = some (plc l) := by
  have hf := h.fd
  unfold qD at hf
  simp only [Bool.and_eq_true, zK] at hf
  have hm := h.mr
  unfold dR plc
  rw [gV (by omega) (by omega)]
/-- Who gets the places, one after the other. -/
def vW (l : aK) (acc : List Int) : List Int → List Int
  | [] => acc
  | n :: t => vW l (bif decide ((acc.length : Int) < plc l) && (!(pl l n).guard || decide (((gd l acc : Nat) : Int) < l.Field.Guards)) then acc ++ [n] else acc) t
theorem xU (l : aK) : ∀ (t acc : List Int), (vW l acc t).length ≤ acc.length + t.length
  | [], acc => by simp [vW]
  | n :: t, acc => by
    refine Nat.le_trans (xU l t _) ?_
    cases decide ((acc.length : Int) < plc l) && (!(pl l n).guard || decide (((gd l acc : Nat) : Int) < l.Field.Guards)) <;> simp <;> omega
def mN (l : aK) : List Int := vW l [] (gS l)
theorem aAt {l : aK} (h : WF l) : iL l = some (mN l) := by
  have hl := oN h
  unfold iL mN
  rw [rO h]
  simp only [Option.bind_some]
  have key := oT (eM l (gS l) ((gS l).length : Int)) (gS l).length (fun i acc => some (vW l acc ((gS l).drop i))) (fun i acc => acc.length ≤ i) (fun k i acc hi hI ih => ?_) (fun k acc hI => ?_) BIG [] (gG (by omega)) (Nat.le_refl _)
  · rw [key]; simp
  · have hlt : decide ((i : Int) < ((gS l).length : Int)) = true := decide_eq_true (by omega)
    simp only [eM, hlt, cond_true, eP hi, Option.bind_some, tH h, dV (show i < 9223372036854775807 by omega)]
    rw [show (aE (gS l)[i] (aA.mk false false 0 0 false false false false) l.players) = pl l (gS l)[i] from rfl, aAr l acc (by omega)]
    simp only [Option.bind_some, rX, sC]
    rw [List.drop_eq_getElem_cons hi, vW]
    cases hc : decide ((acc.length : Int) < plc l) && (!(pl l (gS l)[i]).guard || decide (((gd l acc : Nat) : Int) < l.Field.Guards)) with
    | true =>
      simp only [cond_true]
      rw [nD (by simp; omega), Option.bind_some, ih _ (by simp; omega)]
    | false =>
      simp only [cond_false]
      rw [ih _ (by omega)]
  · simp [eM, lW, vW]
def nB (l : aK) : List Int := bif l.frozen then l.first ++ l.late else mN l
theorem zV {l : aK} (h : WF l) (hf : l.first.length ≤ 1000) (hl : l.late.length ≤ 1000) : dE l = some (nB l) := by
  unfold dE nB
  cases l.frozen with
  | true =>
    simp only [Bool.not_true, cond_false, cond_true]
    rw [aFu _ _ (by omega) (by omega)]; rfl
  | false =>
    simp only [Bool.not_false, cond_true, cond_false]
    rw [aAt h]; rfl
def kH (l : aK) : aK := bif l.frozen then l else { l with frozen := true, first := mN l }
theorem aAq {l : aK} (h : WF l) : iK l = some (kH l) := by
  unfold iK kH
  cases hz : l.frozen with
  | true => simp
  | false =>
    simp only [Bool.not_false, cond_true, cond_false]
    rw [aAt h]; rfl
end Go.Am
