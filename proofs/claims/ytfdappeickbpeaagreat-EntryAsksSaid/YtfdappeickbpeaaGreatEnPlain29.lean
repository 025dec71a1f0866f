/- Plain laws, one behind the other. -/
import Derived.Test.YtfdappeickbpeaaGreatEntryRightLaw
section
namespace Go.Am
theorem dAt (s : aK) (n : Int) (hb : s.People.length ≤ 1000) : mH s n = some (fE (fun p => decide (p.Player = n)) s.People) := by
 unfold mH
 refine aAm (fun k i => lC n s k i) s.People _ (fun k i hi => ?_) (fun k => ?_) BIG (dP (by omega))
 ·simp only [lC, show decide ((i : Int) < (s.People.length : Int)) = true from decide_eq_true (by omega), cond_true, dA hi, Option.bind_some, cF (show i < 9223372036854775807 by omega)]
 ·simp [lC, uY]
theorem dIn (xs : List Int) (n : Int) (hb : xs.length ≤ 1000) : eP xs n = some (decide (n ∈ xs)) := by
 have key := mG (S := Unit) (fun k i _ => lB xs n k i) xs.length (fun i _ => some (decide (n ∈ xs.drop i))) (fun _ _ => True) (fun k i _ hi _ ih => ?_) (fun k _ _ => ?_) BIG () (dP (by omega)) trivial
 ·unfold eP
  rw [key]
  simp
 ·simp only [lB, show decide ((i : Int) < (xs.length : Int)) = true by simpa using hi, cond_true, dA hi, Option.bind_some, cF (show i < 9223372036854775807 by omega)]
  rw [List.drop_eq_getElem_cons hi]
  by_cases h : xs[i] = n
  ·simp [h]
  ·rw [decide_eq_false h, cond_false, ih () trivial]
   have e2 : (n ∈ xs[i] :: xs.drop (i + 1)) ↔ n ∈ xs.drop (i + 1) := by
    rw [List.mem_cons]; exact ⟨fun hh => hh.resolve_left fun e => h e.symm, .inr⟩
   rw [decide_eq_decide.2 e2]
 ·simp [lB, uX]
theorem aLw (xs : List Int) (n : Int) (hb : xs.length ≤ 1000) : eQ xs n = some (xs.filter fun m => !decide (m = n)) := by
 have key := mG (S := List Int) (fun k i o => gO xs n k i o) xs.length (fun i o => some (o ++ (xs.drop i).filter fun m => !decide (m = n))) (fun i o => o.length ≤ i) (fun k i o hi hI ih => ?_) (fun k o _ => ?_) BIG [] (dP (by omega)) (by simp)
 ·unfold eQ
  rw [key]
  simp
 ·simp only [gO, show decide ((i : Int) < (xs.length : Int)) = true by simpa using hi, cond_true, dA hi, Option.bind_some, cF (show i < 9223372036854775807 by omega)]
  rw [List.drop_eq_getElem_cons hi]
  by_cases h : xs[i] = n
  ·rw [decide_eq_true h, Bool.not_true, cond_false, ih o (by omega), List.filter_cons_of_neg (by simp [h])]
  ·rw [decide_eq_false h, Bool.not_false, cond_true, fR (by simp; omega), Option.bind_some, ih _ (by simp; omega), List.filter_cons_of_pos (by simp [h])]
   simp
 ·simp [gO, qQ]
theorem aLv (xs : List Int) (n : Int) (hb : xs.length ≤ 1000) : lE xs n = some (fE (fun x => decide (n = x)) xs + 1) := by
 have hF : ∀ k, xs.length < k → (fun k i => (gK xs n k i).bind fun r => some (r - 1)) k 0 = some (fE (fun x => decide (n = x)) xs) := by
  refine aAm (fun k i => (gK xs n k i).bind fun r => some (r - 1)) xs (fun x => decide (n = x)) (fun k i hi => ?_) (fun k => ?_)
  ·simp only [gK, show decide ((i : Int) < (xs.length : Int)) = true from decide_eq_true (by omega), cond_true, dA hi, Option.bind_some, cF (show i < 9223372036854775807 by omega)]
   by_cases h : xs[i] = n
   ·rw [decide_eq_true h, decide_eq_true h.symm, cond_true, cond_true, Option.bind_some]
    simp
   ·rw [decide_eq_false h, decide_eq_false (fun e => h e.symm), cond_false, cond_false]
  ·simp [gK, sS]
 have := hF BIG (dP (by omega))
 simp only at this
 unfold lE
 cases h : gK xs n BIG 0 with
 | none => rw [h] at this; cases this
 | some r =>
  rw [h, Option.bind_some, Option.some.injEq] at this
  rw [← this]
  simp
theorem aRw (x : dK) (n : Int) (h1 : x.Main.length ≤ 1000) (h2 : x.Wilds.length ≤ 1000) (h3 : x.Out.length ≤ 1000) : lF x n = some (sC x.Main x.Wilds x.Out n) := by
 unfold lF sC
 rw [aLv _ _ h1, aLv _ _ h2, aLv _ _ h3]
 simp only [Option.bind_some]
 have e : ∀ a : Int, decide (0 < a + 1) = decide (0 ≤ a) := fun a => decide_eq_decide.2 ⟨fun h => by omega, fun h => by omega⟩
 rw [e, e, e]
 cases decide (0 ≤ fE (fun x => decide (n = x)) x.Main) <;> cases decide (0 ≤ fE (fun x => decide (n = x)) x.Wilds) <;> cases decide (0 ≤ fE (fun x => decide (n = x)) x.Out) <;> rfl
def aDq (p : aD) : Bool := p.Entered && !p.Quit && !p.Card
theorem aWy (p : aD) : oB p = some (aDq p) := by
 unfold oB aDq
 cases p.Entered <;> cases p.Quit <;> cases p.Card <;> rfl
def bW (l : aN) (n : Int) : aD := aD.mk n (pl l n).rank (pl l n).guard (pl l n).entered (pl l n).quit (pl l n).signed (pl l n).had
structure Rel (L : aN) (s : aK) (i : Nat) : Prop where
 nd : (s.People.map fun p => p.Player).Nodup
 of : ∀ p ∈ s.People, p = bW L p.Player
 all : ∀ n, (∀ p ∈ s.People, p.Player ≠ n) → pl L n = zP
 ord : s.People.Pairwise fun p q => p.Entered = true → q.Entered = true → (pl L p.Player).turn < (pl L q.Player).turn
 wl : s.Wilds = L.wilds
 bk : s.Back = L.more
 len : s.People.length ≤ i
theorem xI {L L2 : aN} {s s2 : aK} {i j : Nat} (h : Rel L s i) (hp : ∀ n, pl L2 n = pl L n) (hw : L2.wilds = L.wilds) (hm : L2.more = L.more) (hs : s2.People = s.People ∧ s2.Wilds = s.Wilds ∧ s2.Back = s.Back) (hij : i ≤ j) : Rel L2 s2 j := by
 refine ⟨by rw [hs.1]; exact h.nd, fun p hp2 => ?_, fun n hn => by rw [hp]; rw [hs.1] at hn; exact h.all n hn, ?_, by rw [hs.2.1, hw]; exact h.wl, by rw [hs.2.2, hm]; exact h.bk, by rw [hs.1]; exact Nat.le_trans h.len hij⟩
 ·rw [hs.1] at hp2
  unfold bW
  rw [hp]
  exact h.of p hp2
 ·rw [hs.1]
  refine h.ord.imp fun {a b} hab => ?_
  rw [hp, hp]; exact hab
theorem aTt (f : aT) : Rel (eI f) (aK.mk ([] : List aD) ([] : List Int) 0 ([] : List Int)) 0 :=
 ⟨by simp, fun p hp => by simp at hp, fun n _ => rfl, by simp, rfl, rfl, by simp⟩
end Go.Am
end
section
namespace Go.Am
theorem aEx {α : Type} {xs : List α} {i : Nat} (h : i ≤ xs.length) : sub xs (i : Int) (xs.length : Int) = some (xs.drop i) := by
 unfold sub
 rw [if_pos (by omega)]
 simp
def xG (f : aT) (s : aK) (x : aO) (A B : List aD) (p : aD) : aK :=
 bif decide (x.Kind = 1) || decide (x.Kind = 2) then
  bif decide (f.Close < x.Hour) || p.Entered then s
  else aK.mk (A ++ B ++ [aD.mk p.Player x.Rank (decide (x.Kind = 2)) true p.Quit p.Signed p.Card]) s.Wilds s.Back s.In
 else bif decide (x.Kind = 3) then
  bif ((decide (f.Freeze < x.Hour) || p.Quit) || decide (x.Player ∈ s.Wilds)) || decide (f.Wilds ≤ (s.Wilds.length : Int)) then s
  else aK.mk (A ++ aD.mk p.Player p.Rank p.Guard p.Entered p.Quit p.Signed true :: B) (s.Wilds ++ [x.Player]) s.Back s.In
 else bif decide (x.Kind = 4) then
  aK.mk (A ++ aD.mk p.Player p.Rank p.Guard p.Entered true p.Signed p.Card :: B) (s.Wilds.filter fun m => !decide (m = x.Player)) (bif decide (x.Player ∈ s.Wilds) && decide (f.Freeze < x.Hour) then s.Back + 1 else s.Back) s.In
 else aK.mk (A ++ aD.mk p.Player p.Rank p.Guard p.Entered p.Quit true p.Card :: B) s.Wilds s.Back s.In
theorem aVr {f : aT} {s : aK} {x : aO} {A B : List aD} {p : aD} (hP : s.People = A ++ p :: B) (hi : fE (fun q => decide (q.Player = x.Player)) s.People = (A.length : Int))
  (hk : x.Kind = 1 ∨ x.Kind = 2 ∨ x.Kind = 3 ∨ x.Kind = 4 ∨ x.Kind = 5) (hl : s.People.length ≤ 100) (hw : s.Wilds.length ≤ 100) (hb : 0 ≤ s.Back ∧ s.Back ≤ 100) : kL f s x = some (xG f s x A B p) := by
 have hAB : A.length + (B.length + 1) ≤ 100 := by rw [hP] at hl; simpa using hl
 have e1 : app 24 ([] : List aD) s.People = some s.People := by rw [fR (by simp; omega)]; rfl
 unfold kL xG
 rw [e1, Option.bind_some, dAt _ _ (show s.People.length ≤ 1000 by omega)]
 show (some (fE (fun q => decide (q.Player = x.Player)) s.People)).bind _ = _
 rw [hi, Option.bind_some, decide_eq_false (show ¬ ((A.length : Nat) : Int) < 0 by omega), cond_false, hP, lK rfl, Option.bind_some]
 have hs1 : sub (A ++ p :: B) 0 (A.length : Int) = some A := by rw [aJg (by simp)]; simp
 have hs2 : sub (A ++ p :: B) (w64 ((A.length : Int) + 1)) ((A ++ p :: B).length : Int) = some B := by
  rw [cF (by omega), aEx (by simp), ← List.drop_drop, List.drop_append_of_le_length (Nat.le_refl _)]
  simp
 have hs3 : app 24 ([] : List aD) A = some A := by rw [fR (by simp; omega)]; rfl
 have hs4 : app 24 A B = some (A ++ B) := fR (by omega)
 have hs5 : ∀ q : aD, app 24 (A ++ B) [q] = some (A ++ B ++ [q]) := fun q => fR (by simp; omega)
 have hs6 : ∀ q : aD, (A ++ p :: B).set (A.length : Int).toNat q = A ++ q :: B := fun q => aJf (by simp)
 have hs7 : app 8 ([] : List Int) s.Wilds = some s.Wilds := by rw [fR (by simp; omega)]; rfl
 have hs8 : app 8 s.Wilds [x.Player] = some (s.Wilds ++ [x.Player]) := fR (by simp; omega)
 have hs9 : w64 (s.Back + 1) = s.Back + 1 := dD (by omega) (by omega)
 rcases hk with h | h | h | h | h
 ·simp only [h, Int.reduceEq, decide_true, decide_false, cond_true, cond_false, Bool.or_false]
  cases decide (f.Close < x.Hour) with
  | true => rfl
  | false =>
   simp only [cond_false, Option.bind_some, Bool.false_or]
   cases p.Entered with
   | true => rfl
   | false =>
    simp only [cond_false, hs1, hs2, hs3, hs4, hs5, Option.bind_some]
 ·simp only [h, Int.reduceEq, decide_true, decide_false, cond_true, cond_false, Bool.or_true]
  cases decide (f.Close < x.Hour) with
  | true => rfl
  | false =>
   simp only [cond_false, Option.bind_some, Bool.false_or]
   cases p.Entered with
   | true => rfl
   | false =>
    simp only [cond_false, hs1, hs2, hs3, hs4, hs5, Option.bind_some]
 ·simp only [h, Int.reduceEq, decide_true, decide_false, cond_true, cond_false, Bool.or_false, dIn _ _ (show s.Wilds.length ≤ 1000 by omega), Option.bind_some, oP]
  cases ((decide (f.Freeze < x.Hour) || p.Quit) || decide (x.Player ∈ s.Wilds)) || decide (f.Wilds ≤ (s.Wilds.length : Int)) with
  | true => rfl
  | false => simp only [cond_false, hs7, hs8, Option.bind_some, lK (p := (A.length : Int)) rfl, hs6]
 ·simp only [h, Int.reduceEq, decide_true, decide_false, cond_true, cond_false, Bool.or_false, dIn _ _ (show s.Wilds.length ≤ 1000 by omega), aLw _ _ (show s.Wilds.length ≤ 1000 by omega), Option.bind_some, kZ, lK (p := (A.length : Int)) rfl, hs6, hs9]
  cases decide (x.Player ∈ s.Wilds) && decide (f.Freeze < x.Hour) <;> rfl
 ·simp only [h, Int.reduceEq, decide_true, decide_false, cond_true, cond_false, Bool.or_false, Option.bind_some, lK (p := (A.length : Int)) rfl, hs6]
theorem aVq {f : aT} {s : aK} {x : aO} (hi : fE (fun q => decide (q.Player = x.Player)) s.People = -1)
  (hk : x.Kind = 1 ∨ x.Kind = 2 ∨ x.Kind = 3 ∨ x.Kind = 4 ∨ x.Kind = 5) (hl : s.People.length ≤ 100) (hw : s.Wilds.length ≤ 100) (hb : 0 ≤ s.Back ∧ s.Back ≤ 100) : kL f s x = some (xG f s x s.People [] (aD.mk x.Player 0 false false false false false)) := by
 have e1 : app 24 ([] : List aD) s.People = some s.People := by rw [fR (by simp; omega)]; rfl
 unfold kL xG
 rw [e1, Option.bind_some, dAt _ _ (show s.People.length ≤ 1000 by omega)]
 show (some (fE (fun q => decide (q.Player = x.Player)) s.People)).bind _ = _
 have e2 : app 24 s.People [aD.mk x.Player 0 false false false false false] = some (s.People ++ [aD.mk x.Player 0 false false false false false]) := fR (by simp; omega)
 have e3 : w64 (((s.People ++ [aD.mk x.Player 0 false false false false false]).length : Int) - 1) = (s.People.length : Int) := by
  rw [List.length_append, List.length_singleton, dD (by omega) (by omega)]; omega
 rw [hi, Option.bind_some, decide_eq_true (show (-1 : Int) < 0 by omega), cond_true, e2, Option.bind_some, e3, lK rfl, Option.bind_some]
 generalize hp : aD.mk x.Player 0 false false false false false = p
 generalize s.People = A at *
 have hs1 : sub (A ++ [p]) 0 (A.length : Int) = some A := by rw [aJg (by simp)]; simp
 have hs2 : sub (A ++ [p]) (w64 ((A.length : Int) + 1)) ((A ++ [p]).length : Int) = some [] := by
  rw [cF (by omega), aEx (by simp), List.drop_eq_nil_of_le (by simp)]
 have hs3 : app 24 ([] : List aD) A = some A := by rw [fR (by simp; omega)]; rfl
 have hs4 : app 24 A [] = some (A ++ []) := fR (by simp; omega)
 have hs5 : ∀ q : aD, app 24 (A ++ []) [q] = some (A ++ [] ++ [q]) := fun q => fR (by simp; omega)
 have hs6 : ∀ q : aD, (A ++ [p]).set (A.length : Int).toNat q = A ++ [q] := fun q => aJf (by simp)
 have hs7 : app 8 ([] : List Int) s.Wilds = some s.Wilds := by rw [fR (by simp; omega)]; rfl
 have hs8 : app 8 s.Wilds [x.Player] = some (s.Wilds ++ [x.Player]) := fR (by simp; omega)
 have hs9 : w64 (s.Back + 1) = s.Back + 1 := dD (by omega) (by omega)
 rcases hk with h | h | h | h | h
 ·simp only [h, Int.reduceEq, decide_true, decide_false, cond_true, cond_false, Bool.or_false]
  cases decide (f.Close < x.Hour) with
  | true => rfl
  | false =>
   simp only [cond_false, Option.bind_some, Bool.false_or]
   cases p.Entered with
   | true => rfl
   | false =>
    simp only [cond_false, hs1, hs2, hs3, hs4, hs5, Option.bind_some]
 ·simp only [h, Int.reduceEq, decide_true, decide_false, cond_true, cond_false, Bool.or_true]
  cases decide (f.Close < x.Hour) with
  | true => rfl
  | false =>
   simp only [cond_false, Option.bind_some, Bool.false_or]
   cases p.Entered with
   | true => rfl
   | false =>
    simp only [cond_false, hs1, hs2, hs3, hs4, hs5, Option.bind_some]
 ·simp only [h, Int.reduceEq, decide_true, decide_false, cond_true, cond_false, Bool.or_false, dIn _ _ (show s.Wilds.length ≤ 1000 by omega), Option.bind_some, oP]
  cases ((decide (f.Freeze < x.Hour) || p.Quit) || decide (x.Player ∈ s.Wilds)) || decide (f.Wilds ≤ (s.Wilds.length : Int)) with
  | true => rfl
  | false => simp only [cond_false, hs7, hs8, Option.bind_some, lK (p := (A.length : Int)) rfl, hs6]
 ·simp only [h, Int.reduceEq, decide_true, decide_false, cond_true, cond_false, Bool.or_false, dIn _ _ (show s.Wilds.length ≤ 1000 by omega), aLw _ _ (show s.Wilds.length ≤ 1000 by omega), Option.bind_some, kZ, lK (p := (A.length : Int)) rfl, hs6, hs9]
  cases decide (x.Player ∈ s.Wilds) && decide (f.Freeze < x.Hour) <;> rfl
 ·simp only [h, Int.reduceEq, decide_true, decide_false, cond_true, cond_false, Bool.or_false, Option.bind_some, lK (p := (A.length : Int)) rfl, hs6]
end Go.Am
end
section
namespace Go.Am
structure Spl (L : aN) (n : Int) (A B : List aD) (i : Nat) : Prop where
 nd : ((A ++ bW L n :: B).map fun p => p.Player).Nodup
 of : ∀ p ∈ A ++ bW L n :: B, p = bW L p.Player
 all : ∀ m, (∀ p ∈ A ++ bW L n :: B, p.Player ≠ m) → pl L m = zP
 ord : (A ++ bW L n :: B).Pairwise fun p q => p.Entered = true → q.Entered = true → (pl L p.Player).turn < (pl L q.Player).turn
 len : (A ++ bW L n :: B).length ≤ i + 1
theorem Spl.ne {L : aN} {n : Int} {A B : List aD} {i : Nat} (h : Spl L n A B i) : ∀ p ∈ A ++ B, p.Player ≠ n := by
 have hn := h.nd
 rw [List.map_append, List.map_cons] at hn
 have h1 := List.nodup_append.1 hn
 have h2 := List.nodup_cons.1 h1.2.1
 intro p hp e
 rcases List.mem_append.1 hp with hp | hp
 ·exact h1.2.2 p.Player (List.mem_map_of_mem hp) n (by show n ∈ (bW L n).Player :: _; exact List.mem_cons_self) e
 ·exact h2.1 (by show n ∈ _; rw [← e]; exact List.mem_map_of_mem hp)
theorem Spl.set {L : aN} {n : Int} {A B : List aD} {i : Nat} (h : Spl L n A B i) (L2 : aN) (ho : ∀ m, m ≠ n → pl L2 m = pl L m) (he : (pl L2 n).entered = (pl L n).entered) (ht : (pl L2 n).turn = (pl L n).turn)
  {w inn : List Int} {b : Int} (hw : w = L2.wilds) (hb : b = L2.more) : Rel L2 (aK.mk (A ++ bW L2 n :: B) w b inn) (i + 1) := by
 have hne := h.ne
 have hpe : ∀ m, (pl L2 m).entered = (pl L m).entered ∧ (pl L2 m).turn = (pl L m).turn := fun m => by
  by_cases e : m = n
  ·subst e; exact ⟨he, ht⟩
  ·rw [ho m e]; exact ⟨rfl, rfl⟩
 have hmap : A ++ bW L2 n :: B = (A ++ bW L n :: B).map fun r => bW L2 r.Player := by
  have hA : ∀ X : List aD, (∀ p ∈ X, p ∈ A ++ B) → X = X.map fun r => bW L2 r.Player := fun X hX => by
   refine (List.map_id X).symm.trans (List.map_congr_left fun p hp => ?_)
   have h1 := hX p hp
   have h2 : p ∈ A ++ bW L n :: B := by
    rcases List.mem_append.1 h1 with h | h
    ·simp [h]
    ·simp [h]
   have h3 := h.of p h2
   show p = bW L2 p.Player
   unfold bW
   rw [ho _ (hne p h1)]
   exact h3
  rw [List.map_append, List.map_cons, ← hA A fun p hp => by simp [hp], ← hA B fun p hp => by simp [hp]]
  rfl
 refine ⟨?_, fun p hp => ?_, fun m hm => ?_, ?_, hw, hb, ?_⟩
 ·show ((A ++ bW L2 n :: B).map fun p => p.Player).Nodup
  rw [hmap, List.map_map]
  exact h.nd
 ·have hp2 : p ∈ A ++ bW L2 n :: B := hp
  rw [hmap] at hp2
  obtain ⟨r, _, rfl⟩ := List.mem_map.1 hp2
  rfl
 ·have hm2 : ∀ p ∈ A ++ bW L2 n :: B, p.Player ≠ m := hm
  have hmn : m ≠ n := fun e => hm2 (bW L2 n) (by simp) e.symm
  rw [ho m hmn]
  refine h.all m fun p hp => ?_
  rw [hmap] at hm2
  exact hm2 (bW L2 p.Player) (List.mem_map_of_mem hp)
 ·show (A ++ bW L2 n :: B).Pairwise _
  rw [hmap, List.pairwise_map]
  refine (List.Pairwise.and_mem.1 h.ord).imp fun {a b} hab h1 h2 => ?_
  rw [(hpe _).2, (hpe _).2]
  refine hab.2.2 ?_ ?_
  ·rw [h.of a hab.1]; exact ((hpe a.Player).1).symm.trans h1
  ·rw [h.of b hab.2.1]; exact ((hpe b.Player).1).symm.trans h2
 ·show (A ++ bW L2 n :: B).length ≤ i + 1
  have := h.len
  simp only [List.length_append, List.length_cons] at this ⊢
  exact this
theorem Spl.last {L : aN} {n : Int} {A B : List aD} {i : Nat} (h : Spl L n A B i) (L2 : aN) (ho : ∀ m, m ≠ n → pl L2 m = pl L m) (ht : ∀ m, (pl L m).entered = true → (pl L m).turn < (pl L2 n).turn)
  {w inn : List Int} {b : Int} (hw : w = L2.wilds) (hb : b = L2.more) : Rel L2 (aK.mk (A ++ B ++ [bW L2 n]) w b inn) (i + 1) := by
 have hne := h.ne
 have hin : ∀ p ∈ A ++ B, p ∈ A ++ bW L n :: B := fun p h1 => by
  rcases List.mem_append.1 h1 with h | h
  ·simp [h]
  ·simp [h]
 have hof : ∀ p ∈ A ++ B, p = bW L2 p.Player := fun p hp => by
  have h3 := h.of p (hin p hp)
  unfold bW
  rw [ho _ (hne p hp)]
  exact h3
 have hperm : (A ++ B ++ [bW L n]).Perm (A ++ bW L n :: B) := by
  rw [List.append_assoc]
  exact List.Perm.append_left A (List.perm_append_comm (l₁ := B) (l₂ := [bW L n]))
 refine ⟨?_, fun p hp => ?_, fun m hm => ?_, ?_, hw, hb, ?_⟩
 ·have e : ((A ++ B ++ [bW L2 n]).map fun p => p.Player) = ((A ++ B ++ [bW L n]).map fun p => p.Player) := by
   simp [bW]
  show ((A ++ B ++ [bW L2 n]).map fun p => p.Player).Nodup
  rw [e]
  exact (hperm.map _).nodup_iff.2 h.nd
 ·have hp2 : p ∈ A ++ B ++ [bW L2 n] := hp
  rcases List.mem_append.1 hp2 with h1 | h1
  ·exact hof p h1
  ·rw [List.mem_singleton.1 h1]; rfl
 ·have hm2 : ∀ p ∈ A ++ B ++ [bW L2 n], p.Player ≠ m := hm
  have hmn : m ≠ n := fun e => hm2 (bW L2 n) (by simp) e.symm
  rw [ho m hmn]
  refine h.all m fun p hp => ?_
  rcases List.mem_append.1 hp with h1 | h1
  ·exact hm2 p (by simp [h1])
  ·rcases List.mem_cons.1 h1 with h1 | h1
   ·rw [h1]; exact fun e => hmn e.symm
   ·exact hm2 p (by simp [h1])
 ·show (A ++ B ++ [bW L2 n]).Pairwise _
  refine List.pairwise_append.2 ⟨?_, List.pairwise_singleton _ _, fun a ha b hb h1 h2 => ?_⟩
  ·have hs : (A ++ B).Sublist (A ++ bW L n :: B) := List.Sublist.append (List.Sublist.refl _) (List.sublist_cons_self _ _)
   refine (List.Pairwise.and_mem.1 (h.ord.sublist hs)).imp fun {a b} hab h1 h2 => ?_
   rw [ho _ (hne a hab.1), ho _ (hne b hab.2.1)]
   exact hab.2.2 h1 h2
  ·rw [List.mem_singleton.1 hb]
   rw [ho _ (hne a ha)]
   refine ht a.Player ?_
   rw [h.of a (hin a ha)] at h1
   exact h1
 ·show (A ++ B ++ [bW L2 n]).length ≤ i + 1
  have := h.len
  simp only [List.length_append, List.length_cons] at this ⊢
  simpa [Nat.add_assoc] using this
theorem aZn {x : aO} (h : gQ x = true) : x.Kind = 1 ∨ x.Kind = 2 ∨ x.Kind = 3 ∨ x.Kind = 4 ∨ x.Kind = 5 := by
 unfold gQ at h
 simp only [Bool.and_eq_true] at h
 have h2 := h.2
 by_cases h1 : x.Kind = 1
 ·exact .inl h1
 ·by_cases h3 : x.Kind = 2
  ·exact .inr (.inl h3)
  ·rw [decide_eq_false h1, decide_eq_false h3, cond_false, cond_false] at h2
   cases hc : decide (x.Kind = 3) || decide (x.Kind = 4) || decide (x.Kind = 5) with
   | false => rw [hc] at h2; cases h2
   | true =>
    simp only [Bool.or_eq_true, decide_eq_true_eq] at hc
    rcases hc with (h | h) | h
    ·exact .inr (.inr (.inl h))
    ·exact .inr (.inr (.inr (.inl h)))
    ·exact .inr (.inr (.inr (.inr h)))
theorem aNl {L : aN} {s : aK} {x : aO} {i : Nat} {A B : List aD} (h : Rel L s i) (hs : Spl L x.Player A B i) (hw : WF L) (wd : Wd L) (hk : x.Kind = 1 ∨ x.Kind = 2 ∨ x.Kind = 3 ∨ x.Kind = 4 ∨ x.Kind = 5) :
  Rel (bK L x) (xG L.Field s x A B (bW L x.Player)) (i + 1) ∧ (xG L.Field s x A B (bW L x.Player)).In = s.In := by
 have ho : ∀ m, m ≠ x.Player → pl (bK L x) m = pl L m := fun m hm => by rw [nV, decide_eq_false hm, cond_false]
 have hn : pl (bK L x) x.Player = upP L x := by rw [nV, decide_eq_true rfl, cond_true]
 have tw := rU L x
 have te := aEy L x
 have same : upP L x = pl L x.Player → (bK L x).wilds = L.wilds → (bK L x).more = L.more → Rel (bK L x) s (i + 1) ∧ s.In = s.In := fun e1 e2 e3 => by
  refine ⟨xI h (fun m => ?_) e2 e3 ⟨rfl, rfl, rfl⟩ (by omega), rfl⟩
  by_cases e : m = x.Player
  ·subst e; rw [hn, e1]
  ·exact ho m e
 rcases hk with hk | hk | hk | hk | hk
 case _ | _ =>
  have hk12 : (decide (x.Kind = 1) || decide (x.Kind = 2)) = true := by simp [hk]
  have ew : (bK L x).wilds = L.wilds := by rw [tw.1]; simp [hk]
  have em : (bK L x).more = L.more := by rw [tw.2.1]; simp [hk]
  unfold xG
  rw [hk12, cond_true]
  cases hc : decide (L.Field.Close < x.Hour) || (bW L x.Player).Entered with
  | true =>
   rw [cond_true]
   refine same ?_ ew em
   unfold upP
   simp only
   rw [hk12, cond_true]
   have : (decide (x.Hour ≤ L.Field.Close) && !(pl L x.Player).entered) = false := by
    rw [Bool.or_eq_true] at hc
    rcases hc with hc | hc
    ·rw [decide_eq_true_eq] at hc; rw [decide_eq_false (by omega)]; rfl
    ·rw [show (pl L x.Player).entered = true from hc]; simp
   rw [this, cond_false]
  | false =>
   rw [cond_false]
   rw [Bool.or_eq_false_iff, decide_eq_false_iff_not] at hc
   have hen : rW L x = true := by
    unfold rW
    rw [hk12, decide_eq_true (by omega), show (pl L x.Player).entered = false from hc.2]; rfl
   have hup : upP L x = aA.mk true (decide (x.Kind = 2)) x.Rank (L.entered + 1) (pl L x.Player).quit (pl L x.Player).signed (pl L x.Player).wild (pl L x.Player).had := by
    unfold upP
    simp only
    rw [hk12, cond_true, decide_eq_true (show x.Hour ≤ L.Field.Close by omega), show (pl L x.Player).entered = false from hc.2]; rfl
   have eq : aD.mk (bW L x.Player).Player x.Rank (decide (x.Kind = 2)) true (bW L x.Player).Quit (bW L x.Player).Signed (bW L x.Player).Card = bW (bK L x) x.Player := by
    unfold bW
    rw [hn, hup]
   rw [eq]
   refine ⟨hs.last _ ho (fun m hm => ?_) (h.wl.trans ew.symm) (h.bk.trans em.symm), rfl⟩
   rw [hn, hup]
   have := (hw.turn m hm).2.1
   show (pl L m).turn < L.entered + 1
   omega
 ·have hk12 : (decide (x.Kind = 1) || decide (x.Kind = 2)) = false := by simp [hk]
  unfold xG
  rw [hk12, cond_false, decide_eq_true hk, cond_true]
  rw [decide_eq_true hk, Bool.true_and, decide_eq_false (show ¬ x.Kind = 4 by omega), cond_false, cond_false, Bool.false_and, cond_false] at tw
  have hc : (((decide (L.Field.Freeze < x.Hour) || (bW L x.Player).Quit) || decide (x.Player ∈ s.Wilds)) || decide (L.Field.Wilds ≤ (s.Wilds.length : Int))) = !(((decide (x.Hour ≤ L.Field.Freeze) && !(pl L x.Player).wild) && !(pl L x.Player).quit) && decide ((L.wilds.length : Int) < L.Field.Wilds)) := by
   have e1 : decide (L.Field.Freeze < x.Hour) = !decide (x.Hour ≤ L.Field.Freeze) := by
    by_cases e : x.Hour ≤ L.Field.Freeze
    ·rw [decide_eq_true e, decide_eq_false (by omega)]; rfl
    ·rw [decide_eq_false e, decide_eq_true (by omega)]; rfl
   have e2 : decide (L.Field.Wilds ≤ (L.wilds.length : Int)) = !decide ((L.wilds.length : Int) < L.Field.Wilds) := by
    by_cases e : (L.wilds.length : Int) < L.Field.Wilds
    ·rw [decide_eq_true e, decide_eq_false (by omega)]; rfl
    ·rw [decide_eq_false e, decide_eq_true (by omega)]; rfl
   have e3 : decide (x.Player ∈ L.wilds) = (pl L x.Player).wild := by
    rw [Bool.eq_iff_iff, decide_eq_true_eq]; exact wd.fl _
   rw [h.wl, e1, e2, e3, show (bW L x.Player).Quit = (pl L x.Player).quit from rfl]
   cases decide (x.Hour ≤ L.Field.Freeze) <;> cases (pl L x.Player).wild <;> cases (pl L x.Player).quit <;> cases decide ((L.wilds.length : Int) < L.Field.Wilds) <;> rfl
  rw [hc]
  cases hc2 : ((decide (x.Hour ≤ L.Field.Freeze) && !(pl L x.Player).wild) && !(pl L x.Player).quit) && decide ((L.wilds.length : Int) < L.Field.Wilds) with
  | false =>
   rw [hc2] at tw
   rw [Bool.not_false, cond_true]
   refine same ?_ tw.1 tw.2.1
   unfold upP
   simp only
   rw [hk12, cond_false, decide_eq_true hk, cond_true, hc2, cond_false]
  | true =>
   rw [hc2] at tw
   rw [Bool.not_true, cond_false]
   have hup : upP L x = aA.mk (pl L x.Player).entered (pl L x.Player).guard (pl L x.Player).rank (pl L x.Player).turn (pl L x.Player).quit (pl L x.Player).signed true true := by
    unfold upP
    simp only
    rw [hk12, cond_false, decide_eq_true hk, cond_true, hc2, cond_true]
   have eq : aD.mk (bW L x.Player).Player (bW L x.Player).Rank (bW L x.Player).Guard (bW L x.Player).Entered (bW L x.Player).Quit (bW L x.Player).Signed true = bW (bK L x) x.Player := by
    unfold bW
    rw [hn, hup]
   rw [eq]
   refine ⟨hs.set _ ho (by rw [hn, hup]) (by rw [hn, hup]) ?_ (h.bk.trans tw.2.1.symm), rfl⟩
   rw [h.wl]; exact tw.1.symm
 ·have hk12 : (decide (x.Kind = 1) || decide (x.Kind = 2)) = false := by simp [hk]
  unfold xG
  rw [hk12, cond_false, decide_eq_false (show ¬ x.Kind = 3 by omega), cond_false, decide_eq_true hk, cond_true]
  rw [decide_eq_false (show ¬ x.Kind = 3 by omega), Bool.false_and, cond_false, cond_false, decide_eq_true hk, cond_true, cond_true, Bool.true_and] at tw
  have hup : upP L x = aA.mk (pl L x.Player).entered (pl L x.Player).guard (pl L x.Player).rank (pl L x.Player).turn true (pl L x.Player).signed false (pl L x.Player).had := by
   unfold upP
   simp only
   rw [hk12, cond_false, decide_eq_false (show ¬ x.Kind = 3 by omega), cond_false, decide_eq_true hk, cond_true]
  have eq : aD.mk (bW L x.Player).Player (bW L x.Player).Rank (bW L x.Player).Guard (bW L x.Player).Entered true (bW L x.Player).Signed (bW L x.Player).Card = bW (bK L x) x.Player := by
   unfold bW
   rw [hn, hup]
  rw [eq]
  refine ⟨hs.set _ ho (by rw [hn, hup]) (by rw [hn, hup]) (by rw [h.wl]; exact tw.1.symm) ?_, rfl⟩
  have e3 : decide (x.Player ∈ L.wilds) = (pl L x.Player).wild := by
   rw [Bool.eq_iff_iff, decide_eq_true_eq]; exact wd.fl _
  rw [h.wl, h.bk, e3]; exact tw.2.1.symm
 ·have hk12 : (decide (x.Kind = 1) || decide (x.Kind = 2)) = false := by simp [hk]
  unfold xG
  rw [hk12, cond_false, decide_eq_false (show ¬ x.Kind = 3 by omega), cond_false, decide_eq_false (show ¬ x.Kind = 4 by omega), cond_false]
  rw [decide_eq_false (show ¬ x.Kind = 3 by omega), Bool.false_and, cond_false, cond_false, decide_eq_false (show ¬ x.Kind = 4 by omega), cond_false, cond_false, Bool.false_and, cond_false] at tw
  have hup : upP L x = aA.mk (pl L x.Player).entered (pl L x.Player).guard (pl L x.Player).rank (pl L x.Player).turn (pl L x.Player).quit true (pl L x.Player).wild (pl L x.Player).had := by
   unfold upP
   simp only
   rw [hk12, cond_false, decide_eq_false (show ¬ x.Kind = 3 by omega), cond_false, decide_eq_false (show ¬ x.Kind = 4 by omega), cond_false, decide_eq_true hk, cond_true]
  have eq : aD.mk (bW L x.Player).Player (bW L x.Player).Rank (bW L x.Player).Guard (bW L x.Player).Entered (bW L x.Player).Quit true (bW L x.Player).Card = bW (bK L x) x.Player := by
   unfold bW
   rw [hn, hup]
  rw [eq]
  exact ⟨hs.set _ ho (by rw [hn, hup]) (by rw [hn, hup]) (by rw [h.wl]; exact tw.1.symm) (h.bk.trans tw.2.1.symm), rfl⟩
theorem aVi {L : aN} {s : aK} {x : aO} {i : Nat} (h : Rel L s i) (hi : i ≤ 99) (hw : WF L) (hwl : L.wilds.length ≤ 100) (wd : Wd L) (hk : x.Kind = 1 ∨ x.Kind = 2 ∨ x.Kind = 3 ∨ x.Kind = 4 ∨ x.Kind = 5) :
  ∃ s2, kL L.Field s x = some s2 ∧ Rel (bK L x) s2 (i + 1) ∧ s2.In = s.In := by
 have hl := h.len
 have hmr := hw.mr
 have hsw : s.Wilds.length ≤ 100 := by rw [h.wl]; exact hwl
 have hsb : 0 ≤ s.Back ∧ s.Back ≤ 100 := by rw [h.bk]; omega
 by_cases hm : ∃ p ∈ s.People, p.Player = x.Player
 ·obtain ⟨p, hp, he⟩ := hm
  obtain ⟨A, B, hAB⟩ := List.append_of_mem hp
  have hpp : p = bW L x.Player := by rw [← he]; exact h.of p hp
  subst hpp
  have hs : Spl L x.Player A B i := ⟨by rw [← hAB]; exact h.nd, by rw [← hAB]; exact h.of, by rw [← hAB]; exact h.all, by rw [← hAB]; exact h.ord, by rw [← hAB]; omega⟩
  have hf : fE (fun q => decide (q.Player = x.Player)) s.People = (A.length : Int) := by
   have hlt : A.length < s.People.length := by rw [hAB]; simp
   have e : s.People.findIdx (fun q => decide (q.Player = x.Player)) = A.length := by
    rw [List.findIdx_eq hlt]
    refine ⟨?_, fun j hj => decide_eq_false fun e => ?_⟩
    ·have : s.People[A.length] = bW L x.Player := by simp [hAB]
     rw [this]; exact decide_eq_true rfl
    ·have e2 : s.People[j] = A[j] := by simp only [hAB]; exact List.getElem_append_left hj
     rw [e2] at e
     exact hs.ne A[j] (by simp) e
   unfold fE
   rw [e, if_pos hlt]
  have c := aNl h hs hw wd hk
  exact ⟨_, aVr hAB hf hk (by omega) hsw hsb, c⟩
 ·have hm2 : ∀ p ∈ s.People, p.Player ≠ x.Player := fun p hp e => hm ⟨p, hp, e⟩
  have hz := h.all x.Player hm2
  have hpp : bW L x.Player = aD.mk x.Player 0 false false false false false := by unfold bW; rw [hz]
  have hs : Spl L x.Player s.People [] i := by
   refine ⟨?_, fun p hp => ?_, fun m hm3 => h.all m fun p hp => hm3 p (by simp [hp]), ?_, by simp; omega⟩
   ·rw [List.map_append]
    refine List.nodup_append.2 ⟨h.nd, by simp, fun a ha b hb => ?_⟩
    obtain ⟨p, hp, rfl⟩ := List.mem_map.1 ha
    have : b = x.Player := by simpa [bW] using hb
    rw [this]; exact hm2 p hp
   ·rcases List.mem_append.1 hp with hp | hp
    ·exact h.of p hp
    ·rw [List.mem_singleton.1 hp]; rfl
   ·refine List.pairwise_append.2 ⟨h.ord, List.pairwise_singleton _ _, fun a ha b hb _ h2 => ?_⟩
    rw [List.mem_singleton.1 hb, hpp] at h2
    cases h2
  have hf : fE (fun q => decide (q.Player = x.Player)) s.People = -1 := by
   have h1 := aJw (fun q : aD => decide (q.Player = x.Player)) s.People
   have h2 : s.People.any (fun q => decide (q.Player = x.Player)) = false := by
    rw [List.any_eq_false]
    intro p hp e
    rw [decide_eq_true_eq] at e
    exact hm2 p hp e
   rw [h2, decide_eq_false_iff_not] at h1
   have := xC (fun q : aD => decide (q.Player = x.Player)) s.People
   omega
  have c := aNl h hs hw wd hk
  rw [hpp] at c
  exact ⟨_, aVq hf hk (by omega) hsw hsb, c⟩
end Go.Am
end
section
namespace Go.Am
theorem aSu {α : Type} {key : α → Int} {c : Int} {T : List α} : T.findIdx (fun y => decide (c < key y)) ≤ T.length := List.findIdx_le_length
theorem aIh {α : Type} {key : α → Int} {c : Int} {T : List α} (hs : T.Pairwise fun x y => key x < key y) {k : Nat} (hk : k < T.length) : c < key T[k] ↔ T.findIdx (fun y => decide (c < key y)) ≤ k := by
 constructor
 ·intro h
  refine Nat.le_of_not_lt fun hlt => ?_
  have := List.not_of_lt_findIdx hlt
  rw [decide_eq_true h] at this; cases this
 ·intro h
  have hl : T.findIdx (fun y => decide (c < key y)) < T.length := by omega
  have h1 : decide (c < key (T[T.findIdx (fun y => decide (c < key y))]'hl)) = true := List.findIdx_getElem (p := fun y => decide (c < key y)) (w := hl)
  rw [decide_eq_true_eq] at h1
  rcases Nat.lt_or_eq_of_le h with h2 | h2
  ·have := List.pairwise_iff_getElem.1 hs _ _ hl hk h2
   omega
  ·have e : T[T.findIdx (fun y => decide (c < key y))]'hl = T[k] := by congr 1
   rw [e] at h1; exact h1
theorem aQi {α : Type} {key : α → Int} {x : α} {T : List α} (hs : T.Pairwise fun x y => key x < key y) (hk : ∀ y ∈ T, key y ≠ key x) :
  (T.take (T.findIdx (fun y => decide (key x < key y))) ++ x :: T.drop (T.findIdx (fun y => decide (key x < key y)))).Pairwise fun x y => key x < key y := by
 rw [List.pairwise_append, List.pairwise_cons]
 have hbefore : ∀ j (hj : j < T.length), j < T.findIdx (fun y => decide (key x < key y)) → key T[j] < key x := fun j hj hlt => by
  have h1 : ¬ key x < key T[j] := fun h => by have := (aIh hs hj).1 h; omega
  have h2 := hk _ (List.getElem_mem hj)
  omega
 refine ⟨hs.sublist (List.take_sublist _ _), ⟨fun y hy => ?_, hs.sublist (List.drop_sublist _ _)⟩, fun a ha b hb => ?_⟩
 ·obtain ⟨j, hj, rfl⟩ := List.getElem_of_mem hy
  simp only [List.length_drop] at hj
  rw [List.getElem_drop]
  exact (aIh hs (by omega)).2 (by omega)
 ·obtain ⟨j, hj, rfl⟩ := List.getElem_of_mem ha
  simp only [List.length_take] at hj
  rw [List.getElem_take]
  have hax := hbefore j (by omega) (by omega)
  rcases List.mem_cons.1 hb with rfl | hb
  ·exact hax
  ·obtain ⟨q, hq, rfl⟩ := List.getElem_of_mem hb
   simp only [List.length_drop] at hq
   rw [List.getElem_drop]
   have := (aIh (c := key x) hs (k := T.findIdx (fun y => decide (key x < key y)) + q) (by omega)).2 (by omega)
   omega
theorem aXr (again : List aD → Int → Option (List aD)) (s : aK) (i : Int) (p : aD) (key : aD → Int) (T : List aD) (hT : T.length ≤ 1000) (hs : T.Pairwise fun x y => key x < key y)
  (hc : ∀ q ∈ T, (decide (0 < p.Rank) && (decide (q.Rank = 0) || decide (p.Rank < q.Rank))) = decide (key p < key q)) : ∀ (j k : Nat), j ≤ T.length → j < k →
  iP again T i s p k ((max j (T.findIdx (fun y => decide (key p < key y))) : Nat) : Int) ((j : Int) - 1) =
   pF again T i ((T.findIdx (fun y => decide (key p < key y)) : Nat) : Int) s p := by
 intro j
 induction j with
 | zero =>
  intro k hj hk
  obtain ⟨k, rfl⟩ : ∃ q, k = q + 1 := ⟨k - 1, by omega⟩
  simp [iP]
 | succ j ih =>
  intro k hj hk
  obtain ⟨k, rfl⟩ : ∃ q, k = q + 1 := ⟨k - 1, by omega⟩
  have hjl : j < T.length := by omega
  have e0 : (((j + 1 : Nat) : Int) - 1) = (j : Int) := by omega
  have hw : w64 ((j : Int) - 1) = (j : Int) - 1 := dD (by omega) (by omega)
  have hge : decide ((0 : Int) ≤ (j : Int)) = true := decide_eq_true (by omega)
  have hcm := hc T[j] (List.getElem_mem hjl)
  have hlt := aIh (c := key p) hs hjl
  rw [e0]
  simp only [iP, hge, cond_true, dA hjl, Option.bind_some, oP, kZ, hw]
  rw [hcm]
  have := ih k (by omega) (by omega)
  by_cases hle : T.findIdx (fun y => decide (key p < key y)) ≤ j
  ·rw [decide_eq_true (hlt.2 hle), cond_true]
   rw [show max j (T.findIdx (fun y => decide (key p < key y))) = j by omega] at this
   exact this
  ·rw [decide_eq_false (fun h => hle (hlt.1 h)), cond_false]
   rw [show max (j + 1) (T.findIdx (fun y => decide (key p < key y))) = max j (T.findIdx (fun y => decide (key p < key y))) by omega]
   exact this
theorem aUr {L : aN} (hw : WF L) {n m : Int} (hn : (pl L n).entered = true) (hm : (pl L m).entered = true) (ht : (pl L m).turn < (pl L n).turn) :
  (decide (0 < (pl L n).rank) && (decide ((pl L m).rank = 0) || decide ((pl L n).rank < (pl L m).rank))) = decide (eM L n < eM L m) := by
 have a := hw.turn n hn
 have b := hw.turn m hm
 have c := hw.ent
 unfold eM
 rw [Bool.eq_iff_iff]
 simp only [Bool.and_eq_true, Bool.or_eq_true, decide_eq_true_eq]
 by_cases e1 : (pl L n).rank = 0
 ·rw [if_pos e1]
  by_cases e2 : (pl L m).rank = 0
  ·rw [if_pos e2]; omega
  ·rw [if_neg e2]; omega
 ·rw [if_neg e1]
  by_cases e2 : (pl L m).rank = 0
  ·rw [if_pos e2]; omega
  ·rw [if_neg e2]; omega
theorem aPe {L : aN} {n : Int} : aDq (bW L n) = isE L.players n := by
 rw [tS]; rfl
theorem aHk {L : aN} {s : aK} {i : Nat} (h : Rel L s i) (hi : i ≤ 100) (hw : WF L) : jT s = some ((bF L).map (bW L)) := by
 have hl := h.len
 unfold jT
 refine pZ (S := List aD) (fun k j o => fM s k o j) s.People.length (fun r => r = some ((bF L).map (bW L)))
  (fun j o => o.Pairwise (fun x y => eM L x.Player < eM L y.Player) ∧ (∀ q, q ∈ o ↔ q ∈ s.People.take j ∧ aDq q = true) ∧ o.length ≤ j ∧ j ≤ s.People.length) (fun k j o hj hI ih => ?_) (fun k j o hj hI => ?_) BIG 0 [] (dP (by omega)) ⟨List.Pairwise.nil, fun q => by simp, by simp, by omega⟩
 ·obtain ⟨h1, h2, h3, h4⟩ := hI
  have hp := h.of s.People[j] (List.getElem_mem hj)
  have htk : s.People.take (j + 1) = s.People.take j ++ [s.People[j]] := by rw [List.take_succ_eq_append_getElem hj]
  simp only [fM, show decide ((j : Int) < (s.People.length : Int)) = true from decide_eq_true (by omega), cond_true, dA hj, Option.bind_some, aWy]
  cases hc : aDq s.People[j] with
  | false =>
   rw [Bool.not_false, cond_true]
   unfold kP
   rw [cF (by omega)]
   refine ih o ⟨h1, fun q => ?_, by omega, by omega⟩
   rw [h2, htk, List.mem_append, List.mem_singleton]
   constructor
   ·rintro ⟨a, b⟩; exact ⟨.inl a, b⟩
   ·rintro ⟨a | a, b⟩
    ·exact ⟨a, b⟩
    ·rw [a, hc] at b; cases b
  | true =>
   rw [Bool.not_true, cond_false]
   have hqs : ∀ q ∈ o, (pl L q.Player).entered = true ∧ (pl L q.Player).turn < (pl L s.People[j].Player).turn ∧ q.Player ≠ s.People[j].Player ∧ q = bW L q.Player := fun q hq => by
    have hq2 := (h2 q).1 hq
    obtain ⟨m, hm, rfl⟩ := List.getElem_of_mem hq2.1
    simp only [List.length_take] at hm
    simp only [List.getElem_take] at hq2 ⊢
    have hmj : m < j := by omega
    have hmn : m < s.People.length := by omega
    have hof := h.of s.People[m] (List.getElem_mem hmn)
    have hen : s.People[m].Entered = true := by
     have := hq2.2
     unfold aDq at this
     simp only [Bool.and_eq_true] at this
     exact this.1.1
    have hen2 : s.People[j].Entered = true := by
     have := hc
     unfold aDq at this
     simp only [Bool.and_eq_true] at this
     exact this.1.1
    refine ⟨?_, List.pairwise_iff_getElem.1 h.ord m j hmn hj hmj hen hen2, ?_, hof⟩
    ·rw [hof] at hen; exact hen
    ·intro e
     have := List.nodup_iff_pairwise_ne.1 h.nd
     rw [List.pairwise_map] at this
     exact List.pairwise_iff_getElem.1 this m j hmn hj hmj e
   have hen : (pl L s.People[j].Player).entered = true := by
    have := hc
    unfold aDq at this
    simp only [Bool.and_eq_true] at this
    have := this.1.1
    rw [hp] at this; exact this
   have hcond : ∀ q ∈ o, (decide (0 < s.People[j].Rank) && (decide (q.Rank = 0) || decide (s.People[j].Rank < q.Rank))) = decide (eM L s.People[j].Player < eM L q.Player) := fun q hq => by
    have hh := hqs q hq
    rw [← aUr hw hen hh.1 hh.2.1]
    have e1 : s.People[j].Rank = (pl L s.People[j].Player).rank := congrArg aD.Rank hp
    have e2 : q.Rank = (pl L q.Player).rank := congrArg aD.Rank hh.2.2.2
    rw [e1, e2]
   have hL2 := aXr (fM s k) s (j : Int) s.People[j] (fun q => eM L q.Player) o (by omega) h1 hcond o.length BIG (Nat.le_refl _) (dP (by omega))
   rw [show max o.length (o.findIdx (fun y => decide (eM L s.People[j].Player < eM L y.Player))) = o.length by have := aSu (key := fun q : aD => eM L q.Player) (c := eM L s.People[j].Player) (T := o); omega] at hL2
   rw [dD (by omega) (by omega), hL2]
   have hpos := aSu (key := fun q : aD => eM L q.Player) (c := eM L s.People[j].Player) (T := o)
   unfold pF kP
   rw [aJg hpos, Option.bind_some, fR (by simp; omega), Option.bind_some, List.nil_append, fR (by simp; omega), Option.bind_some, aEx hpos, Option.bind_some, fR (by simp; omega), Option.bind_some, cF (by omega), List.append_assoc, List.singleton_append]
   refine ih _ ⟨aQi (key := fun q : aD => eM L q.Player) h1 fun q hq e => ?_, fun q => ?_, ?_, by omega⟩
   ·have hh := hqs q hq
    exact hh.2.2.1 (aCh hw hh.1 hen e)
   ·have hperm : q ∈ o.take (o.findIdx (fun y => decide (eM L s.People[j].Player < eM L y.Player))) ++ s.People[j] :: o.drop (o.findIdx (fun y => decide (eM L s.People[j].Player < eM L y.Player))) ↔ q = s.People[j] ∨ q ∈ o := by
     have hsp : q ∈ o ↔ q ∈ o.take (o.findIdx (fun y => decide (eM L s.People[j].Player < eM L y.Player))) ∨ q ∈ o.drop (o.findIdx (fun y => decide (eM L s.People[j].Player < eM L y.Player))) := by
      rw [← List.mem_append, List.take_append_drop]
     rw [List.mem_append, List.mem_cons, hsp]
     constructor
     ·rintro (a | a | a)
      ·exact .inr (.inl a)
      ·exact .inl a
      ·exact .inr (.inr a)
     ·rintro (a | a | a)
      ·exact .inr (.inl a)
      ·exact .inl a
      ·exact .inr (.inr a)
    rw [hperm, h2, htk, List.mem_append, List.mem_singleton]
    constructor
    ·rintro (a | a)
     ·exact ⟨.inr a, by rw [a]; exact hc⟩
     ·exact ⟨.inl a.1, a.2⟩
    ·rintro ⟨a | a, b⟩
     ·exact .inr ⟨a, b⟩
     ·exact .inl a
   ·have := List.length_take_le (o.findIdx (fun y => decide (eM L s.People[j].Player < eM L y.Player))) o
    simp only [List.length_append, List.length_cons, List.length_take, List.length_drop]
    omega
 ·obtain ⟨h1, h2, h3, h4⟩ := hI
  obtain rfl : j = s.People.length := by omega
  have e : o = (bF L).map (bW L) := by
   refine mK (key := fun q : aD => eM L q.Player) h1 ?_ fun q => ?_
   ·rw [List.pairwise_map]
    exact qF hw
   ·rw [h2, List.take_of_length_le (Nat.le_refl _), List.mem_map]
    constructor
    ·rintro ⟨a, b⟩
     have hof := h.of q a
     refine ⟨q.Player, jV.2 ?_, hof.symm⟩
     rw [← aPe, ← hof]; exact b
    ·rintro ⟨n, hn, rfl⟩
     have hE := jV.1 hn
     have hin : ∃ p ∈ s.People, p.Player = n := Classical.byContradiction fun hno => by
      have hz := h.all n fun p hp e => hno ⟨p, hp, e⟩
      rw [tS, hz] at hE
      cases hE
     obtain ⟨p, hp, e⟩ := hin
     have hof := h.of p hp
     rw [e] at hof
     exact ⟨hof ▸ hp, by rw [aPe]; exact hE⟩
  subst e
  simp [fM, sR]
end Go.Am
end
section
namespace Go.Am
theorem aWz {L : aN} {s : aK} {i : Nat} (h : Rel L s i) (hi : i ≤ 100) (hw : WF L) (hm : L.more = 0) : oC L.Field s = some (lL L) := by
 unfold oC
 rw [aHk h hi hw, Option.bind_some]
 have hE := jU hw
 have hp : plc L = L.Field.Places := by unfold plc; rw [hm]; omega
 have key := mG (S := Int × List Int) (fun k j s => fV ((bF L).map (bW L)) L.Field k s.1 j s.2) (bF L).length (fun j s => some (tA L s.2 ((bF L).drop j))) (fun j s => s.1 = ((gd L s.2 : Nat) : Int) ∧ s.2.length ≤ j) (fun k j s hj hI ih => ?_) (fun k s _ => ?_) BIG (0, []) (dP (by omega)) ⟨by simp [gd], by simp⟩
 ·exact key
 ·obtain ⟨hg, hl⟩ := hI
  have hj2 : j < ((bF L).map (bW L)).length := by simpa using hj
  have hn : ((bF L).map (bW L))[j] = bW L (bF L)[j] := List.getElem_map _
  have hgl : gd L s.2 ≤ s.2.length := by unfold gd; exact List.length_filter_le _ _
  simp only [fV, show decide ((j : Int) < (((bF L).map (bW L)).length : Int)) = true from decide_eq_true (by omega), cond_true, dA hj2, Option.bind_some, hn, oP, kZ, cF (show j < 9223372036854775807 by omega)]
  rw [List.drop_eq_getElem_cons hj, aAp]
  have hps : (decide ((s.2.length : Int) < L.Field.Places) && (!(bW L (bF L)[j]).Guard || decide (s.1 < L.Field.Guards))) = psn L s.2 (bF L)[j] := by
   unfold psn
   rw [hp, hg]; rfl
  rw [hps]
  cases hc : psn L s.2 (bF L)[j] with
  | false =>
   rw [cond_false, cond_false]
   exact ih s ⟨hg, by omega⟩
  | true =>
   rw [cond_true, cond_true, fR (by simp; omega), Option.bind_some]
   have e : (bW L (bF L)[j]).Guard = (pl L (bF L)[j]).guard := rfl
   have e2 : (bW L (bF L)[j]).Player = (bF L)[j] := rfl
   rw [e, e2]
   have hga := zM L s.2 (bF L)[j]
   cases hgu : (pl L (bF L)[j]).guard with
   | true =>
    rw [hgu, if_pos rfl] at hga
    rw [cond_true, dD (by omega) (by omega)]
    exact ih (s.1 + 1, s.2 ++ [(bF L)[j]]) ⟨by rw [hga, hg]; simp, by simp; omega⟩
   | false =>
    rw [hgu, if_neg (by simp)] at hga
    rw [cond_false]
    exact ih (s.1, s.2 ++ [(bF L)[j]]) ⟨by rw [hga, hg]; simp, by simp; omega⟩
 ·simp [fV, rD, tA]
theorem aCb {n : Int} : ∀ {xs : List Int}, xs.Nodup → xs.filter (fun m => decide (m = n)) = if n ∈ xs then [n] else []
 | [], _ => by simp
 | a :: t, h => by
  have h1 := List.nodup_cons.1 h
  by_cases e : a = n
  ·subst e
   rw [List.filter_cons_of_pos (by simp), aCb h1.2, if_neg h1.1, if_pos (by simp)]
  ·rw [List.filter_cons_of_neg (by simp [e]), aCb h1.2]
   by_cases hm : n ∈ t
   ·rw [if_pos hm, if_pos (by simp [hm])]
   ·rw [if_neg hm, if_neg (by simp [hm]; exact fun e2 => e e2.symm)]
theorem aUt {L : aN} (hw : WF L) (again : Int → List Int → Option aK) (s o4 : aK) {i : Nat} (hi : i < s.In.length) (inv : List Int) (hb : inv.length ≤ 1000) :
  gI again ((bF L).map (bW L)) (i : Int) L.Field s o4 BIG 0 inv = mS again ((bF L).map (bW L)) (i : Int) L.Field s o4 (inv ++ (if isE L.players s.In[i] = true then [s.In[i]] else [])) := by
 have hE := jU hw
 have key := mG (S := List Int) (fun k j o => gI again ((bF L).map (bW L)) (i : Int) L.Field s o4 k j o) (bF L).length (fun j o => mS again ((bF L).map (bW L)) (i : Int) L.Field s o4 (o ++ ((bF L).drop j).filter fun m => decide (m = s.In[i]))) (fun j o => o.length ≤ 1000 + j) (fun k j o hj hI ih => ?_) (fun k o _ => ?_) BIG inv (dP (by omega)) (by omega)
 ·rw [key, List.drop_zero, aCb (pT hw)]
  by_cases h : isE L.players s.In[i] = true
  ·rw [if_pos h, if_pos (jV.2 h)]
  ·rw [if_neg h, if_neg (fun hm => h (jV.1 hm))]
 ·have hj2 : j < ((bF L).map (bW L)).length := by simpa using hj
  have hn : ((bF L).map (bW L))[j] = bW L (bF L)[j] := List.getElem_map _
  simp only [gI, show decide ((j : Int) < (((bF L).map (bW L)).length : Int)) = true from decide_eq_true (by omega), cond_true, dA hj2, dA hi, Option.bind_some, hn, cF (show j < 9223372036854775807 by omega)]
  rw [List.drop_eq_getElem_cons hj, show (bW L (bF L)[j]).Player = (bF L)[j] from rfl]
  by_cases e : (bF L)[j] = s.In[i]
  ·rw [decide_eq_true e, cond_true, fR (by simp; omega), Option.bind_some, ih _ (by simp; omega), List.filter_cons_of_pos (by simp [e]), List.append_assoc, e]; rfl
  ·rw [decide_eq_false e, cond_false, ih _ (by omega), List.filter_cons_of_neg (by simp [e])]
 ·simp [gI]
theorem aUs {L : aN} (hw : WF L) (s o4 : aK) (hb : s.In.length ≤ 500) :
  gH ((bF L).map (bW L)) L.Field s o4 BIG 0 [] = mR ((bF L).map (bW L)) L.Field s o4 (s.In.filter fun n => isE L.players n) := by
 have key := mG (S := List Int) (fun k j o => gH ((bF L).map (bW L)) L.Field s o4 k j o) s.In.length (fun j o => mR ((bF L).map (bW L)) L.Field s o4 (o ++ (s.In.drop j).filter fun n => isE L.players n)) (fun j o => o.length ≤ j) (fun k j o hj hI ih => ?_) (fun k o _ => ?_) BIG [] (dP (by omega)) (by simp)
 ·rw [key]; rfl
 ·simp only [gH, show decide ((j : Int) < (s.In.length : Int)) = true from decide_eq_true (by omega), cond_true]
  rw [aUt hw _ s o4 hj o (by omega)]
  unfold mS sP
  rw [cF (show j < 9223372036854775807 by omega), List.drop_eq_getElem_cons hj]
  by_cases e : isE L.players s.In[j] = true
  ·rw [if_pos e, ih _ (by simp; omega), List.filter_cons_of_pos (by simp [e]), List.append_assoc]; rfl
  ·rw [if_neg e, List.append_nil, ih _ (by omega), List.filter_cons_of_neg (by simp [e])]
 ·simp [gH]
theorem aYt {L : aN} (hw : WF L) {inv : List Int} (hn : inv.Nodup) (hE : ∀ n ∈ inv, isE L.players n = true) : ((bF L).filter fun n => (pl L n).guard && decide (n ∈ inv)).length = gd L inv := by
 unfold gd
 refine ((List.perm_ext_iff_of_nodup ((pT hw).filter _) (hn.filter _)).2 fun n => ?_).length_eq
 rw [List.mem_filter, List.mem_filter, jV, Bool.and_eq_true, decide_eq_true_eq]
 exact ⟨fun h => ⟨h.2.2, h.2.1⟩, fun h => ⟨hE n h.1, h.2, h.1⟩⟩
theorem aUv {L : aN} (hw : WF L) (again : List Int → Option aK) (s o4 : aK) (inv : List Int) (hb : inv.length ≤ 1000) (hn : inv.Nodup) (hE : ∀ n ∈ inv, isE L.players n = true) :
  gJ again ((bF L).map (bW L)) L.Field s o4 inv BIG 0 0 = mT again ((bF L).map (bW L)) ((gd L inv : Nat) : Int) L.Field s o4 inv := by
 have hEl := jU hw
 have key := mG (S := Int) (fun k j g => gJ again ((bF L).map (bW L)) L.Field s o4 inv k g j) (bF L).length (fun j g => mT again ((bF L).map (bW L)) (g + ((((bF L).drop j).filter fun n => (pl L n).guard && decide (n ∈ inv)).length : Int)) L.Field s o4 inv) (fun j g => 0 ≤ g ∧ g ≤ j) (fun k j g hj hI ih => ?_) (fun k o _ => ?_) BIG 0 (dP (by omega)) (by simp)
 ·rw [key, List.drop_zero, aYt hw hn hE, Int.zero_add]
 ·have hj2 : j < ((bF L).map (bW L)).length := by simpa using hj
  have hnn : ((bF L).map (bW L))[j] = bW L (bF L)[j] := List.getElem_map _
  simp only [gJ, show decide ((j : Int) < (((bF L).map (bW L)).length : Int)) = true from decide_eq_true (by omega), cond_true, dA hj2, Option.bind_some, hnn, dIn _ _ hb, kZ, cF (show j < 9223372036854775807 by omega)]
  rw [List.drop_eq_getElem_cons hj, show (bW L (bF L)[j]).Player = (bF L)[j] from rfl, show (bW L (bF L)[j]).Guard = (pl L (bF L)[j]).guard from rfl]
  cases e : (pl L (bF L)[j]).guard && decide ((bF L)[j] ∈ inv) with
  | true =>
   rw [cond_true, dD (by omega) (by omega), ih _ (by omega), List.filter_cons_of_pos (p := fun n => (pl L n).guard && decide (n ∈ inv)) e, List.length_cons]
   rw [show g + 1 + ((((bF L).drop (j + 1)).filter fun n => (pl L n).guard && decide (n ∈ inv)).length : Int) = g + (((((bF L).drop (j + 1)).filter fun n => (pl L n).guard && decide (n ∈ inv)).length + 1 : Nat) : Int) by omega]
  | false =>
   rw [cond_false, ih _ (by omega), List.filter_cons_of_neg (by rw [e]; simp)]
 ·simp [gJ]
theorem aUw {L : aN} (hw : WF L) (again : List Int → Option aK) (s o4 : aK) (inv : List Int) (hb : inv.length ≤ 1000) : ∀ (j k : Nat), j ≤ (bF L).length → j < k →
  iO again ((bF L).map (bW L)) ((gd L inv : Nat) : Int) L.Field s o4 inv k ((((bF L).drop j).find? (jO L inv)).getD (-1)) ((j : Int) - 1) =
   pE again ((bF L).map (bW L)) (((bF L).find? (jO L inv)).getD (-1)) L.Field s o4 inv := by
 have hEl := jU hw
 intro j
 induction j with
 | zero =>
  intro k hj hk
  obtain ⟨k, rfl⟩ : ∃ q, k = q + 1 := ⟨k - 1, by omega⟩
  simp [iO]
 | succ j ih =>
  intro k hj hk
  obtain ⟨k, rfl⟩ : ∃ q, k = q + 1 := ⟨k - 1, by omega⟩
  have hjl : j < (bF L).length := by omega
  have hj2 : j < ((bF L).map (bW L)).length := by simpa using hjl
  have hnn : ((bF L).map (bW L))[j] = bW L (bF L)[j] := List.getElem_map _
  have e0 : (((j + 1 : Nat) : Int) - 1) = (j : Int) := by omega
  have hwj : w64 ((j : Int) - 1) = (j : Int) - 1 := dD (by omega) (by omega)
  have hge : decide ((0 : Int) ≤ (j : Int)) = true := decide_eq_true (by omega)
  rw [e0]
  simp only [iO, hge, cond_true, dA hj2, Option.bind_some, hnn, dIn _ _ hb, oP, kZ, hwj]
  have hok : (((bW L (bF L)[j]).Signed && !decide ((bW L (bF L)[j]).Player ∈ inv)) && (!(bW L (bF L)[j]).Guard || decide (((gd L inv : Nat) : Int) < L.Field.Guards))) = jO L inv (bF L)[j] := rfl
  rw [hok]
  have hI := ih k (by omega) (by omega)
  rw [List.drop_eq_getElem_cons hjl, List.find?_cons] at hI
  cases e : jO L inv (bF L)[j] with
  | true => rw [e] at hI; exact hI
  | false => rw [e] at hI; exact hI
theorem aUu {L : aN} (hw : WF L) (hnn : ∀ n, isE L.players n = true → 0 ≤ n) (s o4 : aK) (hbk : s.Back = L.more) (first : List Int) : ∀ (d : Nat) (late : List Int) (k K : Nat), (plc L - ((first ++ late).length : Int)).toNat ≤ d → d < K → d ≤ k → (first ++ late).length ≤ 500 → (first ++ late).Nodup → (∀ n ∈ first ++ late, isE L.players n = true) →
  fL ((bF L).map (bW L)) L.Field s o4 K (first ++ late) = some (aK.mk s.People s.Wilds s.Back (first ++ iH L first k late)) := by
 have hplc := qA hw
 have hEl := jU hw
 have hwp : w64 (L.Field.Places + s.Back) = plc L := by
  rw [hbk]
  exact dD (by unfold plc at hplc; omega) (by unfold plc at hplc; omega)
 intro d
 induction d with
 | zero =>
  intro late k K hd hK hk hl hn hE
  obtain ⟨K, rfl⟩ : ∃ q, K = q + 1 := ⟨K - 1, by omega⟩
  have hlt : decide (((first ++ late).length : Int) < plc L) = false := decide_eq_false (by omega)
  have hg : iH L first k late = late := by
   cases k with
   | zero => rfl
   | succ k => rw [iH, hlt, cond_false]
  simp only [fL, hwp, hlt, cond_false, kO, hg]
 | succ d ih =>
  intro late k K hd hK hk hl hn hE
  obtain ⟨K, rfl⟩ : ∃ q, K = q + 1 := ⟨K - 1, by omega⟩
  obtain ⟨k, rfl⟩ : ∃ q, k = q + 1 := ⟨k - 1, by omega⟩
  rw [iH]
  simp only [fL, hwp]
  cases hlt : decide (((first ++ late).length : Int) < plc L) with
  | false => simp only [cond_false, kO]
  | true =>
   rw [decide_eq_true_eq] at hlt
   simp only [cond_true]
   rw [aUv hw _ s o4 _ (by omega) hn hE]
   unfold mT
   have hL8 := aUw hw (fL ((bF L).map (bW L)) L.Field s o4 K) s o4 (first ++ late) (by omega) (bF L).length BIG (Nat.le_refl _) (dP (by omega))
   rw [List.drop_length, List.find?_nil, Option.getD_none] at hL8
   rw [List.length_map, dD (by omega) (by omega), hL8]
   unfold pE
   cases hf : (bF L).find? (jO L (first ++ late)) with
   | none =>
    rw [Option.getD_none, decide_eq_true (by omega), cond_true]
    rfl
   | some n =>
    have hnE := jV.1 (List.mem_of_find?_eq_some hf)
    have h0 := hnn n hnE
    have hok := List.find?_some hf
    have hni : n ∉ first ++ late := by
     unfold jO at hok
     simp only [Bool.and_eq_true, Bool.not_eq_true', decide_eq_false_iff_not] at hok
     exact hok.1.2
    rw [Option.getD_some, decide_eq_false (by omega), cond_false, fR (by simp at hl ⊢; omega), Option.bind_some]
    unfold sQ
    rw [List.append_assoc]
    refine ih (late ++ [n]) k K ?_ (by omega) (by omega) ?_ ?_ ?_
    ·rw [← List.append_assoc, List.length_append, List.length_singleton]; omega
    ·rw [← List.append_assoc, List.length_append, List.length_singleton]; omega
    ·rw [← List.append_assoc]
     refine List.nodup_append.2 ⟨hn, by simp, fun a ha b hb e => ?_⟩
     rw [List.mem_singleton.1 hb] at e
     exact hni (e ▸ ha)
    ·intro m hm
     rw [← List.append_assoc] at hm
     rcases List.mem_append.1 hm with hm | hm
     ·exact hE m hm
     ·rw [List.mem_singleton.1 hm]; exact hnE
theorem aYl {L : aN} {s : aK} {i : Nat} (h : Rel L s i) (hi : i ≤ 100) (hw : WF L) (hz : L.frozen = true) (hin : s.In = L.first ++ L.late) (hn : (L.first ++ L.late).Nodup) (hb : (L.first ++ L.late).length ≤ 200) (hnn : ∀ n, isE L.players n = true → 0 ≤ n) :
  oS L.Field s = some (aK.mk s.People s.Wilds s.Back (bD (kW L))) := by
 have hplc := qA hw
 unfold oS
 rw [aHk h hi hw, Option.bind_some, aUs hw s _ (by rw [hin]; omega)]
 unfold mR
 rw [hin, List.filter_append]
 have e : bD (kW L) = (L.first.filter fun n => isE L.players n) ++ iH L (L.first.filter fun n => isE L.players n) 100 (L.late.filter fun n => isE L.players n) := by
  unfold bD
  rw [show (kW L).frozen = true from hz, cond_true]
  rfl
 rw [e]
 have hl1 := List.length_filter_le (fun n => isE L.players n) (L.first ++ L.late)
 rw [List.filter_append] at hl1
 refine aUu hw hnn s _ h.bk _ 100 _ 100 BIG (by omega) (by decide) (Nat.le_refl _) (by omega) ?_ fun n hm => ?_
 ·rw [← List.filter_append]; exact hn.filter _
 ·rw [← List.filter_append] at hm; exact (List.mem_filter.1 hm).2
end Go.Am
end
section
namespace Go.Am
def NN (L : aN) : Prop := ∀ n, (pl L n).entered = true → 0 ≤ n
structure StE (f : aT) (L : aN) (s : aK) (i : Nat) : Prop where
 good : gE f L i
 rel : Rel L s i
 inn : s.In = bD L
 ms : MS L
 pk : Pk L (bD L)
 wd : Wd L
 nn : NN L
 mz : L.frozen = false → L.more = 0
theorem aSt {x : aO} (h : gQ x = true) : 0 ≤ x.Player := by
 unfold gQ at h
 simp only [Bool.and_eq_true, yA] at h
 exact h.1.1.2.1
theorem aWo {L : aN} {x : aO} (h : NN L) (hx : gQ x = true) : NN (cA L x) := fun n hn => by
 rw [aBs] at hn
 by_cases e : n = x.Player
 ·rw [e]; exact aSt hx
 ·rw [decide_eq_false e, cond_false] at hn; exact h n hn
theorem StE.step {f : aT} {L : aN} {s : aK} {x : aO} {i : Nat} (h : StE f L s i) (hi : i < 60) (hx : gQ x = true) (hz : x.Hour ≤ f.Freeze → L.frozen = false) :
  ∃ s2, mW f s x = some s2 ∧ StE f (cA L x) s2 (i + 1) := by
 obtain ⟨hg, hr, hin, hm, hp, hwd, hnn, hmz⟩ := h
 have hg2 := qD hg hi hx
 have hm2 := aIo L x
 have hp2 := aPt hg hi hx hm hp
 have hwd2 := aPa (x := x) hwd
 have hnn2 := aWo hnn hx
 have hfr := uQ L x
 rw [hg.fd] at hfr
 obtain ⟨L1, e1, hg1, hr1, hin1, hwd1, hm1, hp1, hz1⟩ : ∃ L1, (bif decide (L.Field.Freeze < x.Hour) then dT L else L) = L1 ∧ gE f L1 i ∧ Rel L1 s i ∧ s.In = bD L1 ∧ Wd L1 ∧ MS L1 ∧ Pk L1 (bD L1) ∧ L1.frozen = decide (f.Freeze < x.Hour) := by
  have hf := gA L
  cases hc : decide (L.Field.Freeze < x.Hour) with
  | false =>
   refine ⟨L, rfl, hg, hr, hin, hwd, hm, hp, ?_⟩
   rw [hg.fd] at hc
   rw [hc]
   rw [decide_eq_false_iff_not] at hc
   exact hz (by omega)
  | true =>
   refine ⟨dT L, rfl, nK hg, xI hr (fun n => by unfold pl; rw [hf.1]) hf.2.2.1 hf.2.2.2 ⟨rfl, rfl, rfl⟩ (Nat.le_refl _), by rw [lR hg]; exact hin, aBt hwd hf.1 hf.2.2.1 hf.2.1, fun n hn => ?_, ?_, ?_⟩
   ·rw [lR hg] at hn
    rw [hf.1]; exact hm n hn
   ·rw [lR hg]
    refine ⟨hp.nd, ?_, ?_⟩
    ·unfold plc; rw [hf.2.1, hf.2.2.2]; exact hp.len
    ·rw [zN (l := L) fun n _ => by unfold pl; rw [hf.1], hf.2.1]; exact hp.gd
   ·rw [hg.fd] at hc
    rw [hc]
    unfold dT
    cases h : L.frozen
    ·rfl
    ·exact h
 have est : cA L x = bif (bK L1 x).frozen then kW (bK L1 x) else bK L1 x := by
  unfold cA
  simp only
  rw [e1]
 have hg3 := tZ hg1 hi hx
 obtain ⟨s2, hs2, hr2, hi2⟩ := aVi hr1 (by omega) hg1.wf (by have := hg1.cn.wl; omega) hwd1 (aZn hx)
 rw [hg1.fd] at hs2
 have hft := kY L1 x
 have hmz2 : (cA L x).frozen = false → (cA L x).more = 0 := fun hf => by
  rw [hfr, Bool.or_eq_false_iff] at hf
  have e4 := (aCx L x).2
  have tw := (rU L x).2.1
  rw [hg.fd, hf.2, Bool.and_false, Bool.and_false, cond_false] at tw
  rw [e4, tw]
  exact hmz hf.1
 unfold mW
 rw [hs2, Option.bind_some]
 cases hc : decide (f.Freeze < x.Hour) with
 | true =>
  rw [cond_true]
  rw [hc] at hz1
  have hz2 : (bK L1 x).frozen = true := hft.2.1.trans hz1
  have hmain : bD L1 = L1.first ++ L1.late := by unfold bD; rw [hz1]; rfl
  have hln := hg1.len
  have hnd := hp1.nd
  rw [hmain] at hnd
  have hl := aYl hr2 (by omega) hg3.wf hz2 (by rw [hi2, hin1, hmain, hft.2.2.1, hft.2.2.2]) (by rw [hft.2.2.1, hft.2.2.2]; exact hnd) (by rw [hft.2.2.1, hft.2.2.2]; omega) fun n hn => by
   have := aIv hn
   have e5 : (bK L1 x).players = (cA L x).players := by rw [est, hz2]; rfl
   refine hnn2 n ?_
   unfold pl at this ⊢
   rw [← e5]; exact this
  rw [hg3.fd] at hl
  rw [hl, Option.bind_some]
  rw [hz2, cond_true] at est
  refine ⟨_, rfl, hg2, ?_, ?_, hm2, hp2, hwd2, hnn2, hmz2⟩
  ·rw [est]
   exact xI hr2 (fun n => rfl) rfl rfl ⟨rfl, rfl, rfl⟩ (Nat.le_refl _)
  ·rw [est]
 | false =>
  rw [cond_false]
  rw [hc] at hz1
  have hz2 : (bK L1 x).frozen = false := hft.2.1.trans hz1
  rw [hz2, cond_false] at est
  have hmr : (bK L1 x).more = 0 := by
   rw [← est]
   exact hmz2 (by rw [est]; exact hz2)
  have hf := aWz hr2 (by omega) hg3.wf hmr
  rw [hg3.fd] at hf
  rw [hf, Option.bind_some]
  refine ⟨_, rfl, hg2, ?_, ?_, hm2, hp2, hwd2, hnn2, hmz2⟩
  ·rw [est]
   exact xI hr2 (fun n => rfl) rfl rfl ⟨rfl, rfl, rfl⟩ (Nat.le_refl _)
  ·rw [est]
   show lL (bK L1 x) = bD (bK L1 x)
   unfold bD
   rw [hz2]; rfl
theorem StE.endd {f : aT} {L : aN} {s : aK} {i : Nat} (h : StE f L s i) (hour : Int) : StE f (pK hour L) s i := by
 obtain ⟨hg, hr, hin, hm, hp, hwd, hnn, hmz⟩ := h
 have hf := gA L
 unfold pK
 cases decide (L.Field.Freeze < hour) with
 | false => exact ⟨hg, hr, hin, hm, hp, hwd, hnn, hmz⟩
 | true =>
  rw [cond_true]
  refine ⟨nK hg, xI hr (fun n => by unfold pl; rw [hf.1]) hf.2.2.1 hf.2.2.2 ⟨rfl, rfl, rfl⟩ (Nat.le_refl _), by rw [lR hg]; exact hin, fun n hn => ?_, ?_, aBt hwd hf.1 hf.2.2.1 hf.2.1, fun n hn => ?_, fun hz => ?_⟩
  ·rw [lR hg] at hn
   rw [hf.1]; exact hm n hn
  ·rw [lR hg]
   refine ⟨hp.nd, ?_, ?_⟩
   ·unfold plc; rw [hf.2.1, hf.2.2.2]; exact hp.len
   ·rw [zN (l := L) fun n _ => by unfold pl; rw [hf.1], hf.2.1]; exact hp.gd
  ·unfold pl at hn
   rw [hf.1] at hn
   exact hnn n hn
  ·rw [hf.2.2.2]
   unfold dT at hz
   cases h : L.frozen with
   | false => rw [h] at hz; cases hz
   | true => rw [h] at hz; exact hmz (by rw [cond_true] at hz; exact hz)
theorem aTu {f : aT} (hf : tB f = true) : StE f (eI f) (aK.mk ([] : List aD) ([] : List Int) 0 ([] : List Int)) 0 :=
 ⟨jX hf, aTt f, (by show ([] : List Int) = lL (eI f); rw [aCj (jX hf).wf]; rfl), aFe f, aEj (jX hf).wf, aOz hf, fun n h => (by cases h), fun _ => rfl⟩
theorem aRg {f : aT} (T : List aO) (hT : ∀ x ∈ T, gQ x = true) (hs : T.Pairwise fun x y => dS x < dS y) (hl : T.length ≤ 60) (hour : Int) (o : aK) : ∀ (d i k : Nat) (L : aN) (s : aK), T.length - i = d → d < k → i ≤ T.length → StE f L s i → (L.frozen = true → ∀ y ∈ T.drop i, f.Freeze < y.Hour) →
  ∃ s2 j, jJ hour T f o k (i : Int) s = some s2 ∧ j ≤ T.length ∧ StE f (rP hour L (T.drop i)) s2 j := by
 intro d
 induction d with
 | zero =>
  intro i k L s hd hk hi hS _
  obtain ⟨k, rfl⟩ : ∃ q, k = q + 1 := ⟨k - 1, by omega⟩
  obtain rfl : i = T.length := by omega
  refine ⟨s, T.length, ?_, Nat.le_refl _, ?_⟩
  ·simp [jJ, mO]
  ·rw [List.drop_length]; exact hS
 | succ d ih =>
  intro i k L s hd hk hi hS hz
  obtain ⟨k, rfl⟩ : ∃ q, k = q + 1 := ⟨k - 1, by omega⟩
  have hil : i < T.length := by omega
  have hxo := hT _ (List.getElem_mem hil)
  have hdr := List.drop_eq_getElem_cons hil
  simp only [jJ, show decide ((i : Int) < (T.length : Int)) = true from decide_eq_true (by omega), cond_true, dA hil, Option.bind_some]
  rw [hdr]
  cases hc : decide (hour < T[i].Hour) with
  | true =>
   refine ⟨s, i, rfl, hi, ?_⟩
   rw [rP, hc, cond_true]; exact hS
  | false =>
   have hz1 : T[i].Hour ≤ f.Freeze → L.frozen = false := fun h1 => by
    cases h2 : L.frozen with
    | false => rfl
    | true =>
     have := hz h2 T[i] (by rw [hdr]; exact List.mem_cons_self)
     omega
   obtain ⟨s2, e2, hS2⟩ := hS.step (by omega) hxo hz1
   rw [cond_false, e2, Option.bind_some, cF (by omega), rP, hc, cond_false]
   refine ih (i + 1) k _ s2 (by omega) (by omega) (by omega) hS2 fun hf y hy => ?_
   have hg := hS.good.fd
   rw [uQ, hg, Bool.or_eq_true] at hf
   rcases hf with hf | hf
   ·exact hz hf y (by rw [hdr]; exact List.mem_cons_of_mem _ hy)
   ·rw [decide_eq_true_eq] at hf
    have hsd := hs.sublist (List.drop_sublist i T)
    rw [hdr] at hsd
    have := (List.pairwise_cons.1 hsd).1 y hy
    have b1 := yM hxo
    have b2 := yM (hT y (List.mem_of_mem_drop hy))
    unfold bN at b1 b2
    unfold dS at this
    omega
theorem aLt {f : aT} {l : List aO} (h : VL f l) (hour : Int) : ∃ s j, lA f l hour = some s ∧ j ≤ l.length ∧ StE f (bV f l hour) s j := by
 have hb : ∀ x ∈ l, bN x := fun x hx => yM (h.nt x hx)
 have hT := qE l
 have hlen := h.len
 unfold lA
 rw [aRx h.len hb h.id, Option.bind_some]
 obtain ⟨s, j, e, hj, hS⟩ := aRg (f := f) (dC l) (fun x hx => h.nt x ((fK x).1 hx)) (oA hb h.id) (by omega) hour (aK.mk ([] : List aD) ([] : List Int) 0 ([] : List Int)) (dC l).length 0 BIG (eI f) _ (by omega) (dP (by omega)) (by omega) (aTu h.fd) fun hz => by cases hz
 exact ⟨s, j, e, by omega, hS.endd hour⟩
def aZw (L : aN) : dK := dK.mk (bD L) L.wilds (vC L) (plc L - ((bD L).length : Int))
theorem aLu {f : aT} {L : aN} {s : aK} {i : Nat} (h : StE f L s i) (hi : i ≤ 60) : jS f s = some (aZw L) := by
 have hw := h.good.wf
 have hE := jU hw
 have hplc := qA hw
 have hml := nM h.good
 unfold jS
 rw [aHk h.rel (by omega) hw, Option.bind_some]
 have hop : w64 (w64 (f.Places + s.Back) - (s.In.length : Int)) = plc L - ((bD L).length : Int) := by
  have : f.Places + s.Back = plc L := by unfold plc; rw [h.rel.bk, h.good.fd]
  rw [this, h.inn, dD (n := plc L) (by omega) (by omega), dD (by omega) (by omega)]
 rw [hop, h.rel.wl]
 have key := mG (S := List Int) (fun k j o => gN ((bF L).map (bW L)) s (dK.mk ([] : List Int) ([] : List Int) ([] : List Int) 0) k j o s.In L.wilds (plc L - ((bD L).length : Int))) (bF L).length (fun j o => some (dK.mk s.In L.wilds (o ++ ((bF L).drop j).filter fun n => !decide (n ∈ bD L)) (plc L - ((bD L).length : Int)))) (fun j o => o.length ≤ j) (fun k j o hj hI ih => ?_) (fun k o _ => ?_) BIG [] (dP (by omega)) (by simp)
 ·rw [key, h.inn]; rfl
 ·have hj2 : j < ((bF L).map (bW L)).length := by simpa using hj
  have hnn : ((bF L).map (bW L))[j] = bW L (bF L)[j] := List.getElem_map _
  simp only [gN, show decide ((j : Int) < (((bF L).map (bW L)).length : Int)) = true from decide_eq_true (by omega), cond_true, dA hj2, Option.bind_some, hnn, dIn _ _ (show s.In.length ≤ 1000 by rw [h.inn]; omega), cF (show j < 9223372036854775807 by omega)]
  rw [List.drop_eq_getElem_cons hj, show (bW L (bF L)[j]).Player = (bF L)[j] from rfl]
  by_cases e : (bF L)[j] ∈ s.In
  ·have e2 : (bF L)[j] ∈ bD L := h.inn ▸ e
   rw [decide_eq_true e, Bool.not_true, cond_false, ih _ (by omega), List.filter_cons_of_neg (by simp [e2])]
  ·have e2 : (bF L)[j] ∉ bD L := h.inn ▸ e
   rw [decide_eq_false e, Bool.not_false, cond_true, fR (by simp; omega), Option.bind_some, ih _ (by simp; omega), List.filter_cons_of_pos (by simp [e2]), List.append_assoc]; rfl
 ·simp [gN, qP]
theorem vO (f : aT) (l : List aO) (hour player : Int) : lD f l hour player = some (bif !decide (nE f l = 0) then nE f l else bif !wi hour 0 9999 || !wi player 0 999 then 1 else 0) := by
 unfold lD
 rw [aRv, Option.bind_some]
 cases decide (nE f l = 0) with
 | false => rfl
 | true =>
  rw [Bool.not_true, cond_false, cond_false, aFh, aFh]
  cases wi hour 0 9999 <;> cases wi player 0 999 <;> rfl
end Go.Am
end
