/- Layer 7, plain: slips, each once; the lists that the loops build. -/
import Derived.Test.YtenffgkkeafnpaaBrPlain2
namespace Go.Am

def lI (out : List aE) (x : aE) : List aE := if x ∈ out then out else out ++ [x]
def cA (l : List aE) : List aE := l.foldl lI []
theorem xO (l : List aE) : ∀ out, out.Nodup → (l.foldl lI out).Nodup ∧ (∀ x, x ∈ l.foldl lI out ↔ x ∈ out ∨ x ∈ l) ∧ (l.foldl lI out).length ≤ out.length + l.length := by
  induction l with
  | nil => intro out h; exact ⟨h, by simp, by simp⟩
  | cons a l ih =>
    intro out h
    have hs : (lI out a).Nodup ∧ (∀ x, x ∈ lI out a ↔ x ∈ out ∨ x = a) ∧ (lI out a).length ≤ out.length + 1 := by
      unfold lI
      split
      · rename_i hm
        exact ⟨h, fun x => ⟨.inl, fun h => h.elim id fun e => e ▸ hm⟩, by omega⟩
      · rename_i hm
        refine ⟨List.nodup_append.2 ⟨h, by simp, fun x hx y hy => ?_⟩, by simp, by simp⟩
        simp at hy; subst hy; exact fun e => hm (e ▸ hx)
    obtain ⟨h1, h2, h3⟩ := ih _ hs.1
    refine ⟨h1, fun x => ?_, ?_⟩
    · rw [List.foldl_cons, h2, hs.2.1, List.mem_cons, or_assoc]
    · rw [List.foldl_cons]; simp only [List.length_cons]; omega
theorem uO (l : List aE) : (cA l).Nodup := (xO l [] List.nodup_nil).1
theorem kW (l : List aE) (x : aE) : x ∈ cA l ↔ x ∈ l := by
  have := (xO l [] List.nodup_nil).2.1 x
  simpa [cA] using this
theorem sB (l : List aE) : (cA l).length ≤ l.length := by
  have := (xO l [] List.nodup_nil).2.2
  simpa [cA] using this

theorem aFx (l : List aE) (hl : l.length ≤ 1000) : kK l = some (cA l) := by
  unfold kK
  have main := eQ (S := List aE) (fun k i out => dU l k i out) l.length (fun i out => some ((l.drop i).foldl lI out)) (fun i out => out.length ≤ i) ?_ ?_ BIG [] (cW (by omega)) (by simp)
  · simpa [cA] using main
  · intro k i out hi hI ih
    have hin : fT (dU l k) l i out BIG false 0 = kD (dU l k) l i (decide (l[i] ∈ out)) out := by
      have h := eQ (S := Bool) (fun q j tw => fT (dU l k) l i out q tw j) out.length (fun j tw => kD (dU l k) l i (tw || decide (l[i] ∈ out.drop j)) out) (fun _ _ => True) ?_ ?_ BIG false (cW (by omega)) trivial
      · simpa using h
      · intro q j tw hj _ ih2
        have e : out.drop j = out[j] :: out.drop (j + 1) := List.drop_eq_getElem_cons hj
        simp only [fT, Int.ofNat_lt, hj, decide_true, cond_true, cK hj, cK hi, Option.bind_some, rH, cI (show j < 9223372036854775807 by omega), ih2 _ trivial]
        congr 1
        rw [e]
        by_cases h1 : out[j] = l[i]
        · simp [h1]
        · rw [← e]
          have : l[i] ∈ out.drop j ↔ l[i] ∈ out.drop (j + 1) := by
            rw [e, List.mem_cons]
            exact ⟨fun h => h.resolve_left fun e => h1 e.symm, .inr⟩
          simp [h1, this]
      · intro q tw _
        simp [fT]
    have e : l.drop i = l[i] :: l.drop (i + 1) := List.drop_eq_getElem_cons hi
    simp only [dU, Int.ofNat_lt, hi, decide_true, cond_true, hin]
    unfold kD
    rw [e, List.foldl_cons]
    by_cases hm : l[i] ∈ out
    · simp only [hm, decide_true, Bool.not_true, cond_false, iU, cI (show i < 9223372036854775807 by omega)]
      rw [ih out (by omega), lI, if_pos hm]
    · simp only [hm, decide_false, Bool.not_false, cond_true, iU, cI (show i < 9223372036854775807 by omega), cK hi, Option.bind_some]
      rw [gB (by simp; omega), Option.bind_some, ih _ (by simp; omega), lI, if_neg hm]
  · intro k out _
    simp [dU, oK]

/-! Which slips there are. -/
def isL (s : aE) : Bool := decide (s.Kind = 5)
def dD (l : List aE) : List aE := (cA l).filter isL
/-- The maps that agree fills. -/
structure LA (pre : List aE) (lucky : List (aE × Int)) (about : List (aB × aE)) : Prop where
  lm : ∀ s, s ∈ lucky.map (·.1) ↔ s ∈ pre ∧ s.Kind = 5
  ln : (lucky.map (·.1)).Nodup
  am : ∀ m s, (m, s) ∈ about ↔ (s ∈ pre ∧ s.Kind ≠ 5 ∧ m = ⟨s.Round, s.Place⟩)
  an : (about.map (·.1)).Nodup
theorem xJ {α β : Type} [DecidableEq α] (a : α) (v : β) : ∀ l : List (α × β), (eR a v l).map (·.1) = if a ∈ l.map (·.1) then l.map (·.1) else l.map (·.1) ++ [a]
  | [] => by simp [eR]
  | (k, u) :: l => by
    by_cases h : a = k
    · subst h; simp [eR]
    · have := xJ a v l
      simp only [eR, h, decide_false, cond_false, List.map_cons, this, List.mem_cons, false_or]
      split <;> simp
theorem tP {α β : Type} [DecidableEq α] (a : α) : ∀ l : List (α × β), cL a l = decide (a ∈ l.map (·.1))
  | [] => by simp [cL]
  | (k, u) :: l => by
    simp only [cL, tP a l, List.map_cons, List.mem_cons]
    by_cases h : a = k <;> simp [h]
theorem zP {α β : Type} [DecidableEq α] {a : α} {v z : β} : ∀ {l : List (α × β)}, (l.map (·.1)).Nodup → (a, v) ∈ l → cF a z l = v
  | (k, u) :: l, hn, hm => by
    rw [List.map_cons, List.nodup_cons] at hn
    rcases List.mem_cons.1 hm with h | h
    · cases h; simp [cF]
    · have hne : a ≠ k := fun e => hn.1 (e ▸ List.mem_map.2 ⟨_, h, rfl⟩)
      simp only [cF, hne, decide_false, cond_false]
      exact zP hn.2 h
theorem aCg {α β : Type} [DecidableEq α] {a : α} {v : β} {l : List (α × β)} (h : a ∉ l.map (·.1)) : eR a v l = l ++ [(a, v)] :=
  zQ a v l (by rw [tP]; simpa using h)
theorem xK {α β : Type} [DecidableEq α] {a : α} {v : β} : ∀ {l : List (α × β)}, (l.map (·.1)).Nodup → (a, v) ∈ l → eR a v l = l
  | (k, u) :: l, hn, hm => by
    rw [List.map_cons, List.nodup_cons] at hn
    rcases List.mem_cons.1 hm with h | h
    · cases h; simp [eR]
    · have hne : a ≠ k := fun e => hn.1 (e ▸ List.mem_map.2 ⟨_, h, rfl⟩)
      simp only [eR, hne, decide_false, cond_false]
      rw [xK hn.2 h]

/-- No two results are about one match. -/
def yA (l : List aE) : Prop := ∀ x ∈ l, ∀ y ∈ l, x.Kind ≠ 5 → y.Kind ≠ 5 → x.Round = y.Round → x.Place = y.Place → x = y

theorem aGm {l : List aE} (hl : l.length ≤ 1000) {Q : (Option aW × Bool) → Prop} {pl : List Int} {won : List (aB × Int)} {t : aO}
    (hbad : ¬ yA l → Q (none, false)) (hgood : yA l → ∀ lucky about, LA l lucky about → mX Q pl won t lucky about) : fW Q l l.length pl won t BIG 0 [] [] := by
  refine sA (S := List (aE × Int) × List (aB × aE)) (fun k i s => fW Q l l.length pl won t k i s.1 s.2) l.length (fun p => p) (fun i s => LA (l.take i) s.1 s.2 ∧ yA (l.take i)) ?_ ?_ BIG 0 ([], []) (cW (by omega)) ?_
  · rintro k i ⟨lucky, about⟩ hi ⟨⟨h1, h2, h3, h4⟩, hno⟩ ih
    have ht : ∀ x, x ∈ l.take (i + 1) ↔ x ∈ l.take i ∨ x = l[i] := fun x => by
      rw [List.take_succ_eq_append_getElem hi, List.mem_append, List.mem_singleton]
    have hmi : l[i] ∈ l.take (i + 1) := (ht _).2 (.inr rfl)
    simp only [fW, Int.ofNat_lt, hi, decide_true, cond_true, cK hi, cI (show i < 9223372036854775807 by omega)]
    refine ⟨_, rfl, ?_⟩
    by_cases hk : l[i].Kind = 5
    · simp only [hk, decide_true, cond_true]
      refine ih (_, _) ⟨⟨fun s => ?_, ?_, fun m s => ?_, h4⟩, fun x hx y hy kx ky => ?_⟩
      · rw [xJ]
        split
        · rename_i hm
          rw [h1, ht]
          constructor
          · rintro ⟨a, b⟩; exact ⟨.inl a, b⟩
          · rintro ⟨a | a, b⟩
            · exact ⟨a, b⟩
            · exact (h1 s).1 (a ▸ hm)
        · rw [List.mem_append, List.mem_singleton, h1, ht]
          constructor
          · rintro (⟨a, b⟩ | rfl)
            · exact ⟨.inl a, b⟩
            · exact ⟨.inr rfl, hk⟩
          · rintro ⟨a | a, b⟩
            · exact .inl ⟨a, b⟩
            · exact .inr a
      · rw [xJ]
        split
        · exact h2
        · rename_i hm
          exact List.nodup_append.2 ⟨h2, by simp, fun x hx y hy => by simp at hy; subst hy; exact fun e => hm (e ▸ hx)⟩
      · rw [h3, ht]
        constructor
        · rintro ⟨a, b⟩; exact ⟨.inl a, b⟩
        · rintro ⟨a | a, b, c⟩
          · exact ⟨a, b, c⟩
          · exact absurd (a ▸ hk) b
      · have hx' : x ∈ l.take i := ((ht x).1 hx).resolve_right fun e => kx (e ▸ hk)
        have hy' : y ∈ l.take i := ((ht y).1 hy).resolve_right fun e => ky (e ▸ hk)
        exact hno x hx' y hy' kx ky
    · simp only [hk, decide_false, cond_false]
      by_cases hm : (⟨l[i].Round, l[i].Place⟩ : aB) ∈ about.map (·.1)
      · have hhas : cL (⟨l[i].Round, l[i].Place⟩ : aB) about = true := by rw [tP]; simpa using hm
        obtain ⟨⟨m0, y⟩, hy, hmy⟩ := List.mem_map.1 hm
        simp only at hmy
        subst hmy
        have hget := zP (z := (⟨0, 0, 0, 0, 0⟩ : aE)) h4 hy
        obtain ⟨y1, y2, y3⟩ := (h3 _ _).1 hy
        simp only [hhas, cond_true, hget]
        refine ⟨_, rfl, ?_⟩
        by_cases he : y = l[i]
        · simp only [he, decide_true, Bool.not_true, cond_false]
          rw [xK h4 (by rw [he] at hy; exact hy)]
          have hin : ∀ x, x ∈ l.take (i + 1) ↔ x ∈ l.take i := fun x => by
            rw [ht]
            exact ⟨fun h => h.elim id fun e => by rw [e, ← he]; exact y1, .inl⟩
          exact ih (_, _) ⟨⟨fun s => by rw [h1, hin], h2, fun m s => by rw [h3, hin], h4⟩, fun x hx y hy => hno x ((hin x).1 hx) y ((hin y).1 hy)⟩
        · simp only [he, decide_false, Bool.not_false, cond_true]
          refine hbad fun hN => he ?_
          simp only [aB.mk.injEq] at y3
          exact hN y (List.mem_of_mem_take y1) l[i] (List.getElem_mem hi) y2 hk y3.1.symm y3.2.symm
      · have hhas : cL (⟨l[i].Round, l[i].Place⟩ : aB) about = false := by rw [tP]; simpa using hm
        simp only [hhas, cond_false]
        refine ⟨_, rfl, ?_⟩
        simp only [cond_false]
        rw [aCg hm]
        refine ih (_, _) ⟨⟨fun s => ?_, h2, fun m s => ?_, ?_⟩, fun x hx y hy kx ky er ep => ?_⟩
        · rw [h1, ht]
          constructor
          · rintro ⟨a, b⟩; exact ⟨.inl a, b⟩
          · rintro ⟨a | a, b⟩
            · exact ⟨a, b⟩
            · exact absurd (a ▸ b) hk
        · rw [List.mem_append, List.mem_singleton, h3, ht]
          constructor
          · rintro (⟨a, b, c⟩ | h)
            · exact ⟨.inl a, b, c⟩
            · cases h; exact ⟨.inr rfl, hk, rfl⟩
          · rintro ⟨a | a, b, c⟩
            · exact .inl ⟨a, b, c⟩
            · subst a; exact .inr (by rw [c])
        · rw [List.map_append]
          exact List.nodup_append.2 ⟨h4, by simp, fun x hx y hy => by simp at hy; subst hy; exact fun e => hm (e ▸ hx)⟩
        · have fresh : ∀ z, z ∈ l.take i → z.Kind ≠ 5 → ¬ (z.Round = l[i].Round ∧ z.Place = l[i].Place) := by
            rintro z hz kz ⟨e1, e2⟩
            refine hm (List.mem_map.2 ⟨(⟨z.Round, z.Place⟩, z), (h3 _ _).2 ⟨hz, kz, rfl⟩, ?_⟩)
            rw [← e1, ← e2]
          rcases (ht x).1 hx with hx' | rfl
          · rcases (ht y).1 hy with hy' | rfl
            · exact hno x hx' y hy' kx ky er ep
            · exact absurd ⟨er, ep⟩ (fresh x hx' kx)
          · rcases (ht y).1 hy with hy' | hy'
            · exact absurd ⟨er.symm, ep.symm⟩ (fresh y hy' ky)
            · exact hy'.symm
  · rintro k i ⟨lucky, about⟩ hi ⟨hL, hno⟩
    have hlt : decide ((i : Int) < (l.length : Int)) = false := decide_eq_false (by omega)
    have hta : l.take i = l := List.take_of_length_le (by omega)
    rw [hta] at hL hno
    simp only [fW, hlt, cond_false]
    exact hgood hno lucky about hL
  · exact ⟨⟨by simp, by simp, by simp, by simp⟩, fun x hx => by simp at hx⟩
end Go.Am
