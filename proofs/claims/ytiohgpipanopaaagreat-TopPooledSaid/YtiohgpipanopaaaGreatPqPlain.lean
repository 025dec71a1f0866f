/- Purses without slips, levies, rates and items: both agree. -/
import Derived.Test.YtiohgpipanopaaaGreatTlSh
import Derived.Test.YtiohgpipanopaaaGreatPiPlain6
import Derived.Test.YtiohgpipanopaaaGreatBkPlain5
namespace Go.Am
theorem aKt {α S T : Type} (F : Nat → Int → S → T) (l : List α) (f : S → α → S) (K : S → T) (s0 : S) (h1 : ∀ k i (hi : i < l.length) s, s = (l.take i).foldl f s0 → F (k + 1) (i : Nat) s = F k ((i + 1 : Nat) : Int) (f s l[i])) (h2 : ∀ k s, F (k + 1) (l.length : Nat) s = K s) :
  ∀ k, l.length < k → F k 0 s0 = K (l.foldl f s0) := by
 intro k hk
 have := eX F l.length (fun i s => K ((l.drop i).foldl f s)) (fun i s => s = (l.take i).foldl f s0) (fun k i s hi hI ih => by
  rw [h1 k i hi s hI, ih _ (by rw [List.take_succ_eq_append_getElem hi, List.foldl_append, ← hI]; rfl), List.drop_eq_getElem_cons hi]; rfl)
  (fun k s _ => by rw [h2]; simp) k s0 hk (by simp)
 simpa using this
theorem aEb {α T : Type} (F : Nat → Int → T) (l : List α) (p : α → Bool) (bad K : T) (h1 : ∀ k i (hi : i < l.length), F (k + 1) (i : Nat) = bif p l[i] then F k ((i + 1 : Nat) : Int) else bad) (h2 : ∀ k, F (k + 1) (l.length : Nat) = K) (hb : l.length ≤ 1000000) :
  F BIG 0 = bif l.all p then K else bad := by
 have key : ∀ (d i k : Nat), l.length - i = d → d < k → i ≤ l.length → F k (i : Nat) = bif (l.drop i).all p then K else bad := by
  intro d
  induction d with
  | zero =>
   intro i k hd hk hi
   obtain ⟨k, rfl⟩ : ∃ q, k = q + 1 := ⟨k - 1, by omega⟩
   have : i = l.length := by omega
   subst this
   rw [h2, List.drop_length]; rfl
  | succ d ih =>
   intro i k hd hk hi
   obtain ⟨k, rfl⟩ : ∃ q, k = q + 1 := ⟨k - 1, by omega⟩
   have hil : i < l.length := by omega
   rw [h1 k i hil, List.drop_eq_getElem_cons hil, List.all_cons]
   cases p l[i] with
   | true => rw [cond_true, Bool.true_and]; exact ih (i + 1) k (by omega) (by omega) (by omega)
   | false => rw [cond_false, Bool.false_and, cond_false]
 exact key l.length 0 BIG rfl (cG (by omega)) (Nat.zero_le _)
def atB {α : Type} (l : List α) (p : List α → α → Bool) (i : Nat) : Bool := match l[i]? with | some x => p (l.take i) x | none => true
theorem aOu {α : Type} {l : List α} {p : List α → α → Bool} {i : Nat} (hi : i < l.length) : atB l p i = p (l.take i) l[i] := by unfold atB; rw [List.getElem?_eq_getElem hi]
def aAa {α : Type} (l : List α) (p : List α → α → Bool) : Bool := (List.range l.length).all (atB l p)
theorem aSp {α T : Type} (F : Nat → Int → T) (l : List α) (p : List α → α → Bool) (bad K : T) (h1 : ∀ k i (hi : i < l.length), F (k + 1) (i : Nat) = bif p (l.take i) l[i] then F k ((i + 1 : Nat) : Int) else bad) (h2 : ∀ k, F (k + 1) (l.length : Nat) = K) (hb : l.length ≤ 1000000) :
  F BIG 0 = bif aAa l p then K else bad := by
 refine (rH F l.length (atB l p) bad K (fun k i hi => ?_) h2 BIG (cG (by omega)))
 rw [h1 k i hi, aOu hi]
theorem bHh {α : Type} (l : List α) (p : List α → α → Bool) (Q : α → Prop) (R : α → α → Prop) (h : ∀ pre x, p pre x = true ↔ Q x ∧ ∀ y ∈ pre, R y x) : aAa l p = true ↔ (∀ x ∈ l, Q x) ∧ l.Pairwise R := by
 unfold aAa
 rw [List.all_eq_true]
 constructor
 ·intro ha
  have key : ∀ (i : Nat) (hi : i < l.length), Q l[i] ∧ ∀ y ∈ l.take i, R y l[i] := fun i hi => by
   have := ha i (List.mem_range.2 hi)
   rw [aOu hi] at this
   exact (h _ _).1 this
  refine ⟨fun x hx => ?_, List.pairwise_iff_getElem.2 fun i j hi hj hij => ?_⟩
  ·obtain ⟨i, hi, rfl⟩ := List.getElem_of_mem hx
   exact (key i hi).1
  ·exact (key j hj).2 _ (List.mem_take_iff_getElem.2 ⟨i, by omega, rfl⟩)
 ·rintro ⟨h1, h2⟩ i hi
  have hi' := List.mem_range.1 hi
  rw [aOu hi']
  refine (h _ _).2 ⟨h1 _ (List.getElem_mem hi'), fun y hy => ?_⟩
  obtain ⟨j, hj, rfl⟩ := List.mem_take_iff_getElem.1 hy
  exact List.pairwise_iff_getElem.1 h2 j i (by omega) hi' (by omega)
theorem aMk (n a b : Int) : fR n a b = some (decide (a ≤ n) && decide (n ≤ b)) := by unfold fR; rw [dG, Option.bind_some]
theorem aHh (n a b : Int) : dM n a b = some (decide (a ≤ n) && decide (n ≤ b)) := by unfold dM; rw [dG, Option.bind_some]
def qI (t : bR) : List Int := if t.Two = -1 then [t.One] else [t.One, t.Two]
def iO (p : bB) : List Int := p.Teams.flatMap qI
theorem aIx (l : List bR) : (l.flatMap qI).length ≤ 2 * l.length := by
 induction l with
 | nil => simp
 | cons t l ih =>
  rw [List.flatMap_cons, List.length_append, List.length_cons]
  have : (qI t).length ≤ 2 := by unfold qI; split <;> simp
  omega
theorem aKp {α β : Type} (g : α → List β) : ∀ (l : List α) (s : List β), l.foldl (fun s x => s ++ g x) s = s ++ l.flatMap g
 | [], s => by simp
 | x :: l, s => by rw [List.foldl_cons, aKp g l]; simp
theorem aQf (p : bB) (hb : p.Teams.length ≤ 1000) : nI p = some (eE (iO p)) := by
 unfold nI
 have main := aKt (fun k i s => kO p.Teams (p.Teams.length : Int) k i s) p.Teams (fun s t => s ++ qI t) (fun s => oN s) [] ?_ ?_ BIG (cG (by omega))
 ·refine Eq.trans main ?_
  rw [aKp, List.nil_append]
  have := aIx p.Teams
  unfold oN slices_Sort_int
  rw [if_pos (by omega)]; rfl
 ·intro k i hi s hs
  have hlt : decide ((i : Int) < (p.Teams.length : Int)) = true := decide_eq_true (by omega)
  have hsl : s.length ≤ 2 * i := by
   rw [hs, aKp, List.nil_append]
   have := aIx (p.Teams.take i)
   rw [List.length_take] at this
   omega
  rw [kO, hlt, cond_true, bN hi, Option.bind_some, eN (by simp; omega), Option.bind_some]
  unfold qI
  by_cases h2 : p.Teams[i].Two = -1
  ·rw [decide_eq_true h2, if_pos h2, Bool.not_true, cond_false, bU (by omega)]
  ·rw [decide_eq_false h2, if_neg h2, Bool.not_false, cond_true, eN (by simp; omega), Option.bind_some, bU (by omega), List.append_assoc]; rfl
 ·intro k s
  have hlt : decide ((p.Teams.length : Int) < (p.Teams.length : Int)) = false := decide_eq_false (by omega)
  rw [kO, hlt, cond_false]
theorem aZc (p : bB) (n : Int) : n ∈ eE (iO p) ↔ ∃ t ∈ p.Teams, t.One = n ∨ (t.Two = n ∧ t.Two ≠ -1) := by
 rw [(oZ (iO p)).mem_iff]
 unfold iO
 rw [List.mem_flatMap]
 constructor
 ·rintro ⟨t, ht, hn⟩
  refine ⟨t, ht, ?_⟩
  unfold qI at hn
  split at hn
  ·simp at hn; exact .inl hn.symm
  ·rename_i h2
   simp at hn
   rcases hn with rfl | rfl
   ·exact .inl rfl
   ·exact .inr ⟨rfl, h2⟩
 ·rintro ⟨t, ht, hn⟩
  refine ⟨t, ht, ?_⟩
  unfold qI
  split
  ·rename_i h2
   rcases hn with rfl | ⟨_, h3⟩
   ·simp
   ·exact absurd h2 h3
  ·rcases hn with rfl | ⟨rfl, _⟩ <;> simp
end Go.Am
namespace Go.Am
def sS (p : Int) : List Int → List Int
 | [] => []
 | y :: t => if y = p then sS p t else y :: sS y t
def aBv : List Int → List Int
 | [] => []
 | x :: t => x :: sS x t
theorem aWh (again : Int → List Int → Option (List Int)) {k0 : Nat} : ∀ (t : List Int) (p : Int) (W X : List Int) (k2 k : Nat), 1 ≤ k2 → W.length + X.length + 1 = k0 + k2 → k0 ≤ W.length → (W ++ X ++ p :: t).length < 4611686018427387904 → t.length < k →
  fZ again (k0 : Nat) k (W.length : Nat) (k2 : Nat) (W ++ X ++ p :: t) = some (W ++ sS p t) := by
 intro t
 induction t with
 | nil =>
  intro p W X k2 k h1 h2 h3 hb hk
  obtain ⟨k, rfl⟩ : ∃ q, k = q + 1 := ⟨k - 1, by omega⟩
  simp only [List.length_append, List.length_cons, List.length_nil] at hb
  have t0 : ((k0 : Nat) : Int).toNat = k0 := rfl
  have t1 : ((W.length : Nat) : Int).toNat = W.length := rfl
  have hlt : decide ((k2 : Int) < (((W ++ X ++ [p]).drop k0).length : Int)) = false := decide_eq_false (by simp; omega)
  have c1 : (decide ((0 : Int) ≤ (W.length : Int)) && decide ((W.length : Int) ≤ ((W ++ X ++ [p]).length : Int))) = true := by simp; omega
  have c2 : decide (W.length ≤ (W ++ X ++ [p]).length) = true := by simp
  have c3 : decide ((0 : Int) ≤ (W.length : Int)) = true := by simp
  simp only [fZ, t0, hlt, cond_false, uE]
  rw [c1, t1, c2, c3]
  simp [chk, sS]
 | cons y t ih =>
  intro p W X k2 k h1 h2 h3 hb hk
  obtain ⟨k, rfl⟩ : ∃ q, k = q + 1 := ⟨k - 1, by omega⟩
  simp only [List.length_append, List.length_cons] at hb hk
  have t0 : ((k0 : Nat) : Int).toNat = k0 := rfl
  have t1 : ((W.length : Nat) : Int).toNat = W.length := rfl
  have hlt : decide ((k2 : Int) < (((W ++ X ++ p :: y :: t).drop k0).length : Int)) = true := decide_eq_true (by simp; omega)
  have ed : (W ++ X ++ p :: y :: t).drop k0 = (W ++ X).drop k0 ++ p :: y :: t := by rw [List.drop_append_of_le_length (by simp; omega)]
  have hdl : ((W ++ X).drop k0).length = k2 - 1 := by simp; omega
  have i1 : idx ((W ++ X ++ p :: y :: t).drop k0) (k2 : Nat) = some y := by rw [ed]; exact aUl (by rw [hdl]; omega)
  have i2 : idx ((W ++ X ++ p :: y :: t).drop k0) (w64 ((k2 : Int) - 1)) = some p := by rw [zE (by omega) (by omega), ed]; exact aRg (by rw [hdl])
  simp only [fZ, t0, hlt, cond_true, i1, i2, Option.bind_some, bU (show k2 < 9223372036854775807 by omega)]
  by_cases hyp : y = p
  ·subst hyp
   have := ih y W (X ++ [y]) (k2 + 1) k (by omega) (by simp; omega) h3 (by simp only [List.length_append, List.length_cons, List.length_nil]; omega) (by omega)
   have e1 : W ++ (X ++ [y]) ++ y :: t = W ++ X ++ y :: y :: t := by simp
   rw [e1] at this
   rw [decide_eq_true rfl, Bool.not_true, cond_false, this]
   simp [sS]
  ·have hd : (!decide (y = p)) = true := by rw [decide_eq_false hyp]; rfl
   have i3 : ∃ z, idx (W ++ X ++ p :: y :: t) (W.length : Nat) = some z := ⟨_, bN (by simp; omega)⟩
   obtain ⟨z, i3⟩ := i3
   rw [hd, cond_true, i3, Option.bind_some, t1, bU (by omega)]
   obtain ⟨X', e2⟩ : ∃ X', (W ++ X ++ p :: y :: t).set W.length y = (W ++ [y]) ++ X' ++ y :: t ∧ X'.length = X.length := by
    cases X with
    | nil => exact ⟨[], by simp, rfl⟩
    | cons x X => exact ⟨X ++ [p], by simp, by simp⟩
   rw [e2.1]
   have := ih y (W ++ [y]) X' (k2 + 1) k (by omega) (by rw [List.length_append, e2.2]; simp; omega) (by simp; omega) (by simp only [List.length_append, List.length_cons, List.length_nil, e2.2]; omega) (by omega)
   have e3 : (W ++ [y]).length = W.length + 1 := by simp
   rw [e3] at this
   rw [this]
   simp [sS, hyp]
theorem aTc (s : List Int) (hb : s.length < 4611686018427387904) : pN s = some (aBv s) := by
 have main : ∀ (t A : List Int) (p : Int) (k : Nat), t.length < k → (A ++ p :: t).length < 4611686018427387904 → eM k ((A.length + 1 : Nat) : Int) (A ++ p :: t) = some (A ++ p :: sS p t) := by
  intro t
  induction t with
  | nil =>
   intro A p k hk hb
   obtain ⟨k, rfl⟩ : ∃ q, k = q + 1 := ⟨k - 1, by omega⟩
   have hlt : decide (((A.length + 1 : Nat) : Int) < ((A ++ [p]).length : Int)) = false := decide_eq_false (by simp)
   simp only [eM, hlt, cond_false, uC, sS]
  | cons y t ih =>
   intro A p k hk hb
   obtain ⟨k, rfl⟩ : ∃ q, k = q + 1 := ⟨k - 1, by omega⟩
   simp only [List.length_append, List.length_cons] at hb hk
   have hlt : decide (((A.length + 1 : Nat) : Int) < ((A ++ p :: y :: t).length : Int)) = true := decide_eq_true (by simp; omega)
   have i2 : w64 (((A.length + 1 : Nat) : Int) - 1) = (A.length : Int) := by rw [dF (by omega) (by omega)]; omega
   simp only [eM, hlt, cond_true, aUl rfl, i2, aRg rfl, Option.bind_some]
   by_cases hyp : y = p
   ·subst hyp
    have c1 : (decide ((0 : Int) ≤ ((A.length + 1 : Nat) : Int)) && decide (((A.length + 1 : Nat) : Int) ≤ ((A ++ y :: y :: t).length : Int))) = true := by simp; omega
    rw [decide_eq_true rfl, cond_true, c1]
    simp only [chk, cond_true, Option.bind_some]
    have := aWh (eM k) (k0 := A.length + 1) t y (A ++ [y]) [] 1 BIG (Nat.le_refl _) (by simp) (by simp) (by simp only [List.length_append, List.length_cons, List.length_nil]; omega) (cG (by omega))
    have e3 : (A ++ [y]).length = A.length + 1 := by simp
    have e4 : A ++ [y] ++ [] ++ y :: t = A ++ y :: y :: t := by simp
    rw [e3, e4] at this
    have e5 : ((1 : Nat) : Int) = 1 := rfl
    rw [e5] at this
    rw [this]
    simp [sS]
   ·rw [decide_eq_false hyp, cond_false]
    unfold uD
    rw [bU (by omega)]
    have := ih (A ++ [p]) y k (by omega) (by simp only [List.length_append, List.length_cons, List.length_nil]; omega)
    have e3 : (A ++ [p]).length = A.length + 1 := by simp
    have e4 : A ++ [p] ++ y :: t = A ++ p :: y :: t := by simp
    rw [e3, e4] at this
    rw [this]
    simp [sS, hyp]
 unfold pN
 match s, hb with
 | [], _ => simp [aBv]
 | x :: t, hb =>
  by_cases ht : t = []
  ·subst ht; simp [aBv, sS]
  ·have hl : 0 < t.length := List.length_pos_iff.2 ht
   have hd : decide (((x :: t).length : Int) < 2) = false := decide_eq_false (by simp; omega)
   rw [hd, cond_false]
   have := main t [] x BIG (cG (by simp at hb; omega)) (by simpa using hb)
   simp only [List.length_nil, List.nil_append, Nat.zero_add] at this
   have e5 : ((1 : Nat) : Int) = 1 := rfl
   rw [e5] at this
   rw [this]; rfl
theorem bBb (p : Int) (t : List Int) : (sS p t).Sublist t := by
 induction t generalizing p with
 | nil => exact .slnil
 | cons y t ih =>
  simp only [sS]
  split
  ·exact (ih p).cons _
  ·exact (ih y).cons_cons _
theorem aUo : ∀ (t : List Int) (p : Int), (p :: t).Pairwise (fun x y => x ≤ y) → ((sS p t).length = t.length ↔ (p :: t).Nodup)
 | [], p, _ => by simp [sS]
 | y :: t, p, h => by
  have h1 := List.pairwise_cons.1 h
  have h2 := List.pairwise_cons.1 h1.2
  rw [sS]
  by_cases hy : y = p
  ·subst hy
   rw [if_pos rfl]
   have := (bBb y t).length_le
   constructor
   ·intro he
    rw [List.length_cons] at he
    omega
   ·intro hn
    simp at hn
  ·rw [if_neg hy, List.length_cons, List.length_cons, List.nodup_cons]
   have ih := aUo t y h1.2
   have hpy := h1.1 y List.mem_cons_self
   have hnp : p ∉ y :: t := fun hm => by
    rcases List.mem_cons.1 hm with e | e
    ·exact hy e.symm
    ·have := h2.1 p e; omega
   constructor
   ·intro he; exact ⟨hnp, ih.1 (by omega)⟩
   ·rintro ⟨_, hn⟩; have := ih.2 hn; omega
theorem aKl (xs : List Int) (hb : xs.length ≤ 100000) : pX (eE xs) = some (decide xs.Nodup) := by
 have hp := oZ xs
 have hl := hp.length_eq
 have hs : (eE xs).Pairwise fun x y : Int => x ≤ y := by
  have := List.pairwise_mergeSort (le := fun x y : Int => decide (x ≤ y)) (by intro a b c; simp only [decide_eq_true_eq]; omega) (by intro a b; simp only [Bool.or_eq_true, decide_eq_true_eq]; omega) xs
  exact this.imp fun h => by simpa using h
 have hcl : fA (eE xs) = some (eE xs) := by
  unfold fA
  rw [eN (by simp; omega)]; rfl
 unfold pX
 rw [hcl, Option.bind_some, aTc _ (by omega), Option.bind_some]
 congr 1
 rw [decide_eq_decide, ← hp.nodup_iff]
 cases hys : eE xs with
 | nil => simp [aBv]
 | cons p t =>
  rw [hys] at hs
  have := aUo t p hs
  rw [← this, aBv, List.length_cons, List.length_cons]
  omega
end Go.Am
namespace Go.Am
def wB (n a b : Int) : Bool := decide (a ≤ n) && decide (n ≤ b)
theorem aWb {n a b : Int} : wB n a b = true ↔ a ≤ n ∧ n ≤ b := by unfold wB; simp
def qQ (t : bR) : Bool := wB t.Player 0 999 && wB t.One 0 999 && wB t.Two (-1) 999
theorem xG {t : bR} : qQ t = true ↔ (0 ≤ t.Player ∧ t.Player ≤ 999) ∧ (0 ≤ t.One ∧ t.One ≤ 999) ∧ (-1 ≤ t.Two ∧ t.Two ≤ 999) := by unfold qQ; simp [aWb, and_assoc]
def eK (p : bB) : List Int := p.Teams.map fun t => t.Player
def aIm (p : bB) (n : Int) : Bool := decide (n ∈ iO p)
theorem bBa (p : bB) (n : Int) : aIm p n = decide (n ∈ eE (iO p)) := by unfold aIm; rw [decide_eq_decide]; exact (oZ _).mem_iff.symm
def aFd (p : bB) (n : Int) : Option bR := p.Teams.find? fun t => decide (t.One = n) || (decide (t.Two = n) && decide (0 ≤ n))
theorem bGd {p : bB} (ht : ∀ t ∈ p.Teams, qQ t = true) (n : Int) : ((aFd p n).isSome && decide (0 ≤ n)) = aIm p n := by
 rw [bBa]
 unfold aFd
 rw [Bool.eq_iff_iff, Bool.and_eq_true, decide_eq_true_eq, decide_eq_true_eq, List.find?_isSome, aZc]
 constructor
 ·rintro ⟨⟨t, h1, h2⟩, h3⟩
  simp only [Bool.or_eq_true, Bool.and_eq_true, decide_eq_true_eq] at h2
  refine ⟨t, h1, ?_⟩
  rcases h2 with h2 | h2
  ·exact .inl h2
  ·exact .inr ⟨h2.1, by omega⟩
 ·rintro ⟨t, h1, h2⟩
  have := xG.1 (ht t h1)
  simp only [Bool.or_eq_true, Bool.and_eq_true, decide_eq_true_eq]
  rcases h2 with h2 | ⟨h2, h3⟩
  ·exact ⟨⟨t, h1, .inl h2⟩, by omega⟩
  ·exact ⟨⟨t, h1, .inr ⟨h2, by omega⟩⟩, by omega⟩
theorem bCx (p : bB) (n : Int) (hb : p.Teams.length ≤ 1000) : mA p n = some (decide (n ∈ eK p)) := by
 unfold mA
 have main := aEb (fun k i => iM n p k i) p.Teams (fun t => !decide (t.Player = n)) (some true) (some false) (fun k i hi => by
  have hlt : decide ((i : Int) < (p.Teams.length : Int)) = true := decide_eq_true (by omega)
  rw [iM, hlt, cond_true, bN hi, Option.bind_some, bU (by omega)]
  cases decide (p.Teams[i].Player = n) <;> rfl) (fun k => by
  have hlt : decide ((p.Teams.length : Int) < (p.Teams.length : Int)) = false := decide_eq_false (by omega)
  rw [iM, hlt, cond_false]; rfl) (by omega)
 refine Eq.trans main ?_
 have : (p.Teams.all fun t => !decide (t.Player = n)) = !decide (n ∈ eK p) := by
  unfold eK
  rw [Bool.eq_iff_iff, List.all_eq_true, Bool.not_eq_true', decide_eq_false_iff_not, List.mem_map]
  constructor
  ·rintro h ⟨t, h1, h2⟩
   have := h t h1
   simp [h2] at this
  ·intro h t h1
   simp only [Bool.not_eq_true', decide_eq_false_iff_not]
   exact fun h2 => h ⟨t, h1, h2⟩
 rw [this]
 cases decide (n ∈ eK p) <;> rfl
end Go.Am
namespace Go.Am
def aAp (p : bB) : Bool := p.Tree.Slots.all fun x => decide (x = -1) || decide (x ∈ eK p)
def rP (p : bB) : Bool := decide (p.Teams.length ≤ 64) && p.Teams.all qQ && decide (eK p).Nodup && decide (iO p).Nodup && aAp p
structure Sz (p : bB) : Prop where
 slots : p.Tree.Slots.length ≤ 1000
 slips : p.Slips = []
 prizes : p.Prizes.length ≤ 1000
 teams : p.Teams.length ≤ 1000
 levies : p.Levies = []
 rates : p.Rates = []
 items : p.Items = []
 good : ∃ d, Good p.Tree p.Slips d
section
variable {p : bB} (hz : Sz p)
include hz
theorem bHf : oM p = some (rP p) := by
 have h1 := hz.teams
 have hsp := hz.slips
 have hsl := hz.slots
 have hpp : (iO p).length ≤ 2000 := by have := aIx p.Teams; unfold iO; omega
 have hpt : (eK p).length = p.Teams.length := by unfold eK; simp
 unfold oM
 by_cases h64 : p.Teams.length ≤ 64
 ·rw [decide_eq_false (by omega), cond_false]
  have main := aEb (fun k i => lC p.Teams (p.Teams.length : Int) p k i ((p.Teams.take i.toNat).map fun t => t.Player)) p.Teams qQ (some false) (lB p (eK p)) (fun k i hi => by
   have hlt : decide ((i : Int) < (p.Teams.length : Int)) = true := decide_eq_true (by omega)
   have ei : ((i : Nat) : Int).toNat = i := rfl
   have ei2 : (((i + 1 : Nat) : Int)).toNat = i + 1 := rfl
   rw [lC, hlt, cond_true, bN hi, Option.bind_some, aMk, Option.bind_some, aMk, Option.bind_some, eL, Option.bind_some, aMk, Option.bind_some, eL, Option.bind_some, ei, ei2]
   have e : (!(decide (0 ≤ p.Teams[i].Player) && decide (p.Teams[i].Player ≤ 999)) || !(decide (0 ≤ p.Teams[i].One) && decide (p.Teams[i].One ≤ 999)) || !(decide (-1 ≤ p.Teams[i].Two) && decide (p.Teams[i].Two ≤ 999))) = !qQ p.Teams[i] := by unfold qQ wB; simp only [Bool.not_and, Bool.or_assoc]
   rw [e]
   cases qQ p.Teams[i] with
   | true => rw [Bool.not_true, cond_false, cond_true, eN (by simp; omega), Option.bind_some, bU (by omega), List.take_succ_eq_append_getElem hi, List.map_append]; rfl
   | false => rfl) (fun k => by
   have hlt : decide ((p.Teams.length : Int) < (p.Teams.length : Int)) = false := decide_eq_false (by omega)
   have ei : ((p.Teams.length : Nat) : Int).toNat = p.Teams.length := rfl
   rw [lC, hlt, cond_false, ei, List.take_length]; rfl) (by omega)
  refine Eq.trans main ?_
  have hK2 : tL (eE (iO p)) p (eE (eK p)) = some true := by
   have e1 : ∀ k, nE (eE (iO p)) p.Slips (p.Slips.length : Int) p (eE (eK p)) (k + 1) 0 = tM (eE (iO p)) p := fun k => by
    rw [nE, hsp]; rfl
   refine (e1 _).trans ?_
   unfold tM
   rw [hz.levies, hz.rates]; kernel_rfl
  have hK0 : lB p (eK p) = some (decide (eK p).Nodup && decide (iO p).Nodup && aAp p && true) := by
   unfold lB slices_Sort_int
   rw [if_pos (by omega), Option.bind_some, aQf p h1, Option.bind_some, aKl _ (by omega), Option.bind_some, aKl _ (by omega), Option.bind_some, eL, Option.bind_some]
   have m := aEb (fun k i => jV (eE (iO p)) p.Tree.Slots (p.Tree.Slots.length : Int) p (eE (eK p)) k i) p.Tree.Slots (fun x => decide (x = -1) || decide (x ∈ eK p)) (some false) (tL (eE (iO p)) p (eE (eK p))) (fun k i hi => by
    have hlt : decide ((i : Int) < (p.Tree.Slots.length : Int)) = true := decide_eq_true (by omega)
    have hc : decide (p.Tree.Slots[i] ∈ eE (eK p)) = decide (p.Tree.Slots[i] ∈ eK p) := by rw [decide_eq_decide]; exact (oZ _).mem_iff
    rw [jV, hlt, cond_true, bN hi, Option.bind_some, pP _ (by rw [(oZ _).length_eq]; omega), Option.bind_some, dG, Option.bind_some, hc, bU (by omega)]
    cases decide (p.Tree.Slots[i] = -1) <;> cases decide (p.Tree.Slots[i] ∈ eK p) <;> rfl) (fun k => by
    have hlt : decide ((p.Tree.Slots.length : Int) < (p.Tree.Slots.length : Int)) = false := decide_eq_false (by omega)
    rw [jV, hlt, cond_false]) (by omega)
   have m' : jV (eE (iO p)) p.Tree.Slots (p.Tree.Slots.length : Int) p (eE (eK p)) BIG 0 = some (aAp p && true) := by
    refine Eq.trans m ?_
    rw [hK2]
    unfold aAp
    cases p.Tree.Slots.all _ <;> rfl
   rw [m']
   cases decide (eK p).Nodup <;> cases decide (iO p).Nodup <;> rfl
  rw [hK0]
  unfold rP
  rw [decide_eq_true h64]
  cases p.Teams.all qQ <;> simp [Bool.and_assoc]
 ·rw [decide_eq_true (by omega), cond_true]
  unfold rP
  rw [decide_eq_false h64]; simp
end
end Go.Am
namespace Go.Am
def aJk (pre : List bR) (t : bR) : Bool := qQ t && !decide (t.One = t.Two) && pre.all fun o => !(decide (o.Player = t.Player) || decide (o.One = t.One) || decide (o.Two = t.One) || (decide (0 ≤ t.Two) && (decide (o.One = t.Two) || decide (o.Two = t.Two))))
section
variable {p : bB} (hz : Sz p)
include hz
theorem bEf {i : Nat} (hi : i < p.Teams.length) (again : Int → Option Bool) (t : bR) : fJ again (i : Nat) p t BIG 0 = bif (p.Teams.take i).all (fun o => !(decide (o.Player = t.Player) || decide (o.One = t.One) || decide (o.Two = t.One) || (decide (0 ≤ t.Two) && (decide (o.One = t.Two) || decide (o.Two = t.Two))))) then again ((i + 1 : Nat) : Int) else some false := by
 have h1 := hz.teams
 have hl : (p.Teams.take i).length = i := by simp; omega
 refine aEb (fun k j => fJ again (i : Nat) p t k j) (p.Teams.take i) _ (some false) (again ((i + 1 : Nat) : Int)) (fun k j hj => ?_) (fun k => ?_) (by omega)
 ·have hj' : j < i := by omega
  have hlt : decide ((j : Int) < (i : Int)) = true := decide_eq_true (by omega)
  rw [fJ, hlt, cond_true, bN (show j < p.Teams.length by omega), Option.bind_some, eL, Option.bind_some, eL, Option.bind_some, eL, Option.bind_some, dG, Option.bind_some, eL, Option.bind_some, bU (by omega), List.getElem_take]
  cases (decide (p.Teams[j].Player = t.Player) || decide (p.Teams[j].One = t.One) || decide (p.Teams[j].Two = t.One) || (decide (0 ≤ t.Two) && (decide (p.Teams[j].One = t.Two) || decide (p.Teams[j].Two = t.Two)))) <;> rfl
 ·rw [hl]
  have hlt : decide ((i : Int) < (i : Int)) = false := decide_eq_false (by omega)
  rw [fJ, hlt, cond_false]
  unfold tA sZ
  rw [bU (by omega)]
theorem bEx : lG p = some (aAa p.Teams aJk && (aAp p && decide (p.Teams.length ≤ 64))) := by
 have h1 := hz.teams
 have hsp := hz.slips
 have hsl := hz.slots
 unfold lG
 have main := aSp (fun k i => fI p k i) p.Teams aJk (some false) (lI p) (fun k i hi => by
  have hlt : decide ((i : Int) < (p.Teams.length : Int)) = true := decide_eq_true (by omega)
  rw [fI, hlt, cond_true, bN hi, Option.bind_some, aHh, Option.bind_some, aHh, Option.bind_some, eL, Option.bind_some, aHh, Option.bind_some, eL, Option.bind_some, eL, Option.bind_some, bEf hz hi]
  have e : (!(decide (0 ≤ p.Teams[i].Player) && decide (p.Teams[i].Player ≤ 999)) || !(decide (0 ≤ p.Teams[i].One) && decide (p.Teams[i].One ≤ 999)) || !(decide (-1 ≤ p.Teams[i].Two) && decide (p.Teams[i].Two ≤ 999))) = !qQ p.Teams[i] := by unfold qQ wB; simp only [Bool.not_and, Bool.or_assoc]
  rw [e]
  unfold aJk
  cases qQ p.Teams[i] with
  | false => rfl
  | true =>
   cases decide (p.Teams[i].One = p.Teams[i].Two) with
   | true => rfl
   | false => rfl) (fun k => by
  have hlt : decide ((p.Teams.length : Int) < (p.Teams.length : Int)) = false := decide_eq_false (by omega)
  rw [fI, hlt, cond_false]) (by omega)
 refine Eq.trans main ?_
 have hK4 : oV p = some (decide (p.Teams.length ≤ 64)) := by
  have e : decide ((p.Teams.length : Int) ≤ 64) = decide (p.Teams.length ≤ 64) := by rw [decide_eq_decide]; omega
  rw [← e]
  have e1 : ∀ k, jP p (k + 1) 0 = tB p := fun k => by
   rw [jP, hsp]; rfl
  exact e1 _
 have hK0 : lI p = some (aAp p && decide (p.Teams.length ≤ 64)) := by
  unfold lI
  have m := aEb (fun k i => gQ p k i) p.Tree.Slots (fun x => decide (x = -1) || decide (x ∈ eK p)) (some false) (oV p) (fun k i hi => by
   have hlt : decide ((i : Int) < (p.Tree.Slots.length : Int)) = true := decide_eq_true (by omega)
   rw [gQ, hlt, cond_true, bN hi, Option.bind_some, Option.bind_some, bCx p _ h1, Option.bind_some, dG, Option.bind_some, bU (by omega)]
   cases decide (p.Tree.Slots[i] = -1) <;> cases decide (p.Tree.Slots[i] ∈ eK p) <;> rfl) (fun k => by
   have hlt : decide ((p.Tree.Slots.length : Int) < (p.Tree.Slots.length : Int)) = false := decide_eq_false (by omega)
   rw [gQ, hlt, cond_false]) (by omega)
  refine Eq.trans m ?_
  rw [hK4]
  unfold aAp
  cases p.Tree.Slots.all _ <;> rfl
 rw [hK0]
 cases aAa p.Teams aJk <;> rfl
omit hz in
theorem oW {t : bR} {n : Int} : n ∈ qI t ↔ n = t.One ∨ (n = t.Two ∧ t.Two ≠ -1) := by
 unfold qI
 split
 ·rename_i h
  simp
  exact fun h1 h2 => absurd h h2
 ·rename_i h
  simp [h]
omit hz in
theorem aZz : aAa p.Teams aJk = (p.Teams.all qQ && decide (eK p).Nodup && decide (iO p).Nodup) := by
 have hw := bHh p.Teams aJk (fun t => qQ t = true ∧ t.One ≠ t.Two) (fun o t => ¬ (o.Player = t.Player ∨ o.One = t.One ∨ o.Two = t.One ∨ (0 ≤ t.Two ∧ (o.One = t.Two ∨ o.Two = t.Two)))) (fun pre t => by
  unfold aJk
  simp only [Bool.and_eq_true, Bool.not_eq_true', decide_eq_false_iff_not, List.all_eq_true, Bool.or_eq_false_iff, Bool.and_eq_false_iff]
  constructor
  ·rintro ⟨⟨h1, h2⟩, h3⟩
   refine ⟨⟨h1, h2⟩, fun o ho => ?_⟩
   have := h3 o ho
   rintro (h | h | h | ⟨h, h4⟩)
   ·exact this.1.1.1 h
   ·exact this.1.1.2 h
   ·exact this.1.2 h
   ·rcases this.2 with h5 | ⟨h5, h6⟩
    ·exact h5 h
    ·rcases h4 with h4 | h4
     ·exact h5 h4
     ·exact h6 h4
  ·rintro ⟨⟨h1, h2⟩, h3⟩
   refine ⟨⟨h1, h2⟩, fun o ho => ?_⟩
   have := h3 o ho
   refine ⟨⟨⟨fun h => this (.inl h), fun h => this (.inr (.inl h))⟩, fun h => this (.inr (.inr (.inl h)))⟩, ?_⟩
   by_cases h0 : 0 ≤ t.Two
   ·exact .inr ⟨fun h => this (.inr (.inr (.inr ⟨h0, .inl h⟩))), fun h => this (.inr (.inr (.inr ⟨h0, .inr h⟩)))⟩
   ·exact .inl h0)
 rw [Bool.eq_iff_iff, hw, Bool.and_eq_true, Bool.and_eq_true, List.all_eq_true, decide_eq_true_eq, decide_eq_true_eq]
 unfold eK iO
 have hpl : (p.Teams.map fun t => t.Player).Nodup ↔ p.Teams.Pairwise fun a b => a.Player ≠ b.Player := List.pairwise_map
 have hpp : (p.Teams.flatMap qI).Nodup ↔ (∀ t ∈ p.Teams, (qI t).Nodup) ∧ p.Teams.Pairwise fun a b => ∀ x ∈ qI a, ∀ y ∈ qI b, x ≠ y := List.pairwise_flatMap
 rw [hpl, hpp]
 constructor
 ·rintro ⟨h1, h2⟩
  refine ⟨⟨fun t ht => (h1 t ht).1, h2.imp fun h he => h (.inl he)⟩, fun t ht => ?_, ?_⟩
  ·unfold qI
   split
   ·simp
   ·simp [(h1 t ht).2]
  ·refine List.Pairwise.imp_of_mem ?_ h2
   intro a b ha hb hab x hx y hy he
   have tb := xG.1 (h1 b hb).1
   subst he
   rcases oW.1 hx with h3 | ⟨h3, h4⟩ <;> rcases oW.1 hy with h5 | ⟨h5, h6⟩
   ·exact hab (.inr (.inl (by omega)))
   ·exact hab (.inr (.inr (.inr ⟨by omega, .inl (by omega)⟩)))
   ·exact hab (.inr (.inr (.inl (by omega))))
   ·exact hab (.inr (.inr (.inr ⟨by omega, .inr (by omega)⟩)))
 ·rintro ⟨⟨h1, h2⟩, h3, h4⟩
  refine ⟨fun t ht => ⟨h1 t ht, fun he => ?_⟩, ?_⟩
  ·have := h3 t ht
   have tb := xG.1 (h1 t ht)
   unfold qI at this
   rw [if_neg (by omega)] at this
   simp [he] at this
  ·refine List.Pairwise.imp_of_mem ?_ (List.Pairwise.and h2 h4)
   rintro a b ha hb ⟨hab, hx⟩ (h | h | h | ⟨h, h5⟩)
   ·exact hab h
   ·exact hx a.One (oW.2 (.inl rfl)) b.One (oW.2 (.inl rfl)) h
   ·have tb := xG.1 (h1 b hb)
    exact hx a.Two (oW.2 (.inr ⟨rfl, by omega⟩)) b.One (oW.2 (.inl rfl)) h
   ·rcases h5 with h5 | h5
    ·exact hx a.One (oW.2 (.inl rfl)) b.Two (oW.2 (.inr ⟨rfl, by omega⟩)) h5
    ·exact hx a.Two (oW.2 (.inr ⟨rfl, by omega⟩)) b.Two (oW.2 (.inr ⟨rfl, by omega⟩)) h5
theorem bGs : lG p = some (rP p) := by
 rw [bEx hz, aZz]
 unfold rP
 cases p.Teams.all qQ <;> cases decide (eK p).Nodup <;> cases decide (iO p).Nodup <;> cases aAp p <;> cases decide (p.Teams.length ≤ 64) <;> rfl
theorem bGr : rT p = some true := by
 have e1 : ∀ k, gO p (k + 1) 0 = sY p := fun k => by
  rw [gO, hz.levies]; rfl
 have e2 : ∀ k, gP p (k + 1) 0 = some true := fun k => by
  rw [gP, hz.rates]; rfl
 exact (e1 _).trans (e2 _)
theorem bGq : rS p = some true := by
 have e1 : ∀ k, gN p (k + 1) 0 = oQ p := fun k => by
  rw [gN, hz.items]; rfl
 refine (e1 _).trans ?_
 unfold oQ
 rw [hz.items]; rfl
theorem bHd : oL p = some true := by
 unfold oL
 rw [aQf p hz.teams, Option.bind_some]
 have e1 : ∀ k, lA (eE (iO p)) p.Items (p.Items.length : Int) p (k + 1) 0 = tK p := fun k => by
  rw [lA, hz.items]; rfl
 refine (e1 _).trans ?_
 unfold tK
 rw [hz.items]; kernel_rfl
end
end Go.Am
namespace Go.Am
section
variable {p : bB} (hz : Sz p)
include hz
def aCj (pre : List Int) (x : Int) : Bool := wB x 0 10000000 && (match pre.getLast? with | some y => !decide (x < y) | none => true)
def nD (p : bB) : Bool := aAa p.Prizes aCj && decide ((p.Prizes.length : Int) = p.Tree.Rounds + 1) && wB p.Daily 0 100000
omit hz in
theorem aNj (l : List Int) : aAa l aCj = true ↔ (∀ x ∈ l, 0 ≤ x ∧ x ≤ 10000000) ∧ ∀ i (hi : i + 1 < l.length), l[i]'(by omega) ≤ l[i + 1] := by
 unfold aAa
 rw [List.all_eq_true]
 have key : ∀ (i : Nat) (hi : i < l.length), atB l aCj i = true ↔ (0 ≤ l[i] ∧ l[i] ≤ 10000000) ∧ (∀ h : 0 < i, l[i - 1]'(by omega) ≤ l[i]) := fun i hi => by
  rw [aOu hi]
  unfold aCj
  rw [Bool.and_eq_true, aWb]
  refine and_congr_right fun _ => ?_
  cases i with
  | zero => simp
  | succ j =>
   have hg : (l.take (j + 1)).getLast? = some (l[j]'(by omega)) := by
    rw [List.take_succ_eq_append_getElem (show j < l.length by omega), List.getLast?_concat]
   rw [hg]
   simp only [Bool.not_eq_true', decide_eq_false_iff_not]
   constructor
   ·intro h _; show l[j]'(by omega) ≤ _; omega
   ·intro h; have h' : l[j]'(by omega) ≤ l[j + 1] := h (by omega); omega
 constructor
 ·intro h
  refine ⟨fun x hx => ?_, fun i hi => ?_⟩
  ·obtain ⟨i, hi, rfl⟩ := List.getElem_of_mem hx
   exact ((key i hi).1 (h i (List.mem_range.2 hi))).1
  ·exact ((key (i + 1) hi).1 (h (i + 1) (List.mem_range.2 hi))).2 (by omega)
 ·rintro ⟨h1, h2⟩ i hi
  have hi' := List.mem_range.1 hi
  refine (key i hi').2 ⟨h1 _ (List.getElem_mem hi'), fun h => ?_⟩
  have := h2 (i - 1) (by omega)
  have e : i - 1 + 1 = i := by omega
  simp only [e] at this
  exact this
omit hz in
theorem bFg (x y : Int) : wJ x y = some (decide (x < y)) := by
 unfold wJ vB
 simp
omit hz in
theorem bCd (l : List Int) (hl : l.length ≤ 1000) (h1 : 1 ≤ l.length) : ∃ b, nW l = some b ∧ (b = true ↔ ∀ i (hi : i + 1 < l.length), l[i]'(by omega) ≤ l[i + 1]) := by
 have key : ∀ (i k : Nat) (hi : i < l.length), i < k → ∃ b, gU l k (i : Nat) = some b ∧ (b = true ↔ ∀ j (hj : j + 1 < l.length), j < i → l[j]'(by omega) ≤ l[j + 1]) := by
  intro i
  induction i with
  | zero =>
   intro k hi hk
   obtain ⟨k, rfl⟩ : ∃ q, k = q + 1 := ⟨k - 1, by omega⟩
   have hlt : decide (0 < (((0 : Nat) : Int))) = false := rfl
   exact ⟨true, by rw [gU, hlt, cond_false]; rfl, by simp⟩
  | succ i ih =>
   intro k hi hk
   obtain ⟨k, rfl⟩ : ∃ q, k = q + 1 := ⟨k - 1, by omega⟩
   have hlt : decide (0 < (((i + 1 : Nat) : Int))) = true := decide_eq_true (by omega)
   have ew : w64 (((i + 1 : Nat) : Int) - 1) = ((i : Nat) : Int) := by rw [dF (by omega) (by omega)]; omega
   rw [gU, hlt, cond_true, bN hi, Option.bind_some, ew, bN (show i < l.length by omega), Option.bind_some, bFg, Option.bind_some]
   by_cases hb : l[i + 1] < l[i]'(by omega)
   ·rw [decide_eq_true hb, cond_true]
    refine ⟨false, rfl, ?_⟩
    constructor
    ·intro h; cases h
    ·intro h; have := h i hi (by omega); omega
   ·rw [decide_eq_false hb, cond_false]
    obtain ⟨b, h2, h3⟩ := ih k (by omega) (by omega)
    refine ⟨b, h2, h3.trans ⟨fun h j hj hji => ?_, fun h j hj hji => h j hj (by omega)⟩⟩
    rcases Nat.eq_or_lt_of_le (Nat.le_of_lt_succ hji) with rfl | h4
    ·omega
    ·exact h j hj h4
 unfold nW
 have ew : w64 ((l.length : Int) - 1) = ((l.length - 1 : Nat) : Int) := by rw [dF (by omega) (by omega)]; omega
 rw [ew]
 obtain ⟨b, h2, h3⟩ := key (l.length - 1) BIG (by omega) (cG (by omega))
 exact ⟨b, h2, h3.trans ⟨fun h i hi => h i hi (by omega), fun h i hi _ => h i hi⟩⟩
end
end Go.Am
namespace Go.Am
theorem aLv {l : List Int} (h : ∀ i (hi : i + 1 < l.length), l[i]'(by omega) ≤ l[i + 1]) : ∀ (n i : Nat) (hi : i + n < l.length), l[i]'(by omega) ≤ l[i + n]
 | 0, i, _ => Int.le_refl _
 | n + 1, i, hi => Int.le_trans (aLv h n i (by omega)) (h (i + n) hi)
theorem aJo {l : List Int} (hl : 1 ≤ l.length) (hs : ∀ i (hi : i + 1 < l.length), l[i]'(by omega) ≤ l[i + 1]) : (∀ x ∈ l, 0 ≤ x ∧ x ≤ 10000000) ↔ 0 ≤ l[0] ∧ l[l.length - 1]'(by omega) ≤ 10000000 := by
 constructor
 ·intro h
  exact ⟨(h _ (List.getElem_mem _)).1, (h _ (List.getElem_mem _)).2⟩
 ·rintro ⟨h1, h2⟩ x hx
  obtain ⟨i, hi, rfl⟩ := List.getElem_of_mem hx
  have a1 := aLv hs i 0 (by omega)
  have a2 := aLv hs (l.length - 1 - i) i (by omega)
  have e : i + (l.length - 1 - i) = l.length - 1 := by omega
  simp only [Nat.zero_add, e] at a1 a2
  omega
section
variable {p : bB} (hz : Sz p)
include hz
theorem bHe (hr : 1 ≤ p.Tree.Rounds ∧ p.Tree.Rounds ≤ 5) : sD p = some (nD p) := by
 have h1 := hz.prizes
 unfold sD nD
 have ew : w64 (p.Tree.Rounds + 1) = p.Tree.Rounds + 1 := dF (by omega) (by omega)
 rw [ew]
 by_cases hl : (p.Prizes.length : Int) = p.Tree.Rounds + 1
 ·have hl1 : 1 ≤ p.Prizes.length := by omega
  obtain ⟨b, hb, hbi⟩ := bCd p.Prizes h1 hl1
  rw [decide_eq_true hl, Bool.not_true, cond_false, hb, Option.bind_some, Option.bind_some, aMk, Option.bind_some, eL, Option.bind_some, Bool.and_true]
  have ew2 : w64 ((p.Prizes.length : Int) - 1) = ((p.Prizes.length - 1 : Nat) : Int) := by rw [dF (by omega) (by omega)]; omega
  have i0 : idx p.Prizes 0 = some (p.Prizes[0]'(by omega)) := bN (i := 0) (by omega)
  rw [i0, Option.bind_some, ew2, bN (show p.Prizes.length - 1 < p.Prizes.length by omega), Option.bind_some, dG, Option.bind_some]
  have hw : (decide (0 ≤ p.Daily) && decide (p.Daily ≤ 100000)) = wB p.Daily 0 100000 := rfl
  rw [hw]
  have he : aAa p.Prizes aCj = (b && (decide (0 ≤ p.Prizes[0]'(by omega)) && decide (p.Prizes[p.Prizes.length - 1]'(by omega) ≤ 10000000))) := by
   rw [Bool.eq_iff_iff, aNj, Bool.and_eq_true, Bool.and_eq_true, decide_eq_true_eq, decide_eq_true_eq, hbi]
   constructor
   ·rintro ⟨a1, a2⟩; exact ⟨a2, (aJo hl1 a2).1 a1⟩
   ·rintro ⟨a2, a1⟩; exact ⟨(aJo hl1 a2).2 a1, a2⟩
  rw [he]
  cases b <;> cases wB p.Daily 0 100000 <;> simp
 ·rw [decide_eq_false hl, Bool.not_false, cond_true, Option.bind_some, cond_true, Option.bind_some, cond_true, Bool.and_false, Bool.false_and]
def wI (p : bB) : Int := bif !nD p then 100 else bif !rP p then 101 else 0
theorem aQe : lJ p = some (wI p) := by
 obtain ⟨d, hg⟩ := hz.good
 unfold lJ wI sG
 rw [xJ hg, Option.bind_some, decide_eq_true rfl, Bool.not_true, cond_false, bHe hz ⟨hg.ht.r1, hg.ht.r5⟩, Option.bind_some, bHf hz, Option.bind_some, bHd hz, Option.bind_some]
 cases nD p <;> cases rP p <;> rfl
omit hz in
theorem aZy {p : bB} (h : rP p = true) : ∀ t ∈ p.Teams, qQ t = true := by
 unfold rP at h
 simp only [Bool.and_eq_true] at h
 exact List.all_eq_true.1 h.1.1.1.2
theorem bAn : oE p = some (wI p) := by
 obtain ⟨d, hg⟩ := hz.good
 have hp := hz.prizes
 unfold oE wI
 have hr1 := hg.ht.r1
 have hr5 := hg.ht.r5
 rw [xJ hg, Option.bind_some, decide_eq_true rfl, Bool.not_true, cond_false]
 have main := aSp (fun k i => iC p k i) p.Prizes aCj (some 100) (rR p) (fun k i hi => by
  have hlt : decide ((i : Int) < (p.Prizes.length : Int)) = true := decide_eq_true (by omega)
  rw [iC, hlt, cond_true, bN hi, Option.bind_some, aHh, Option.bind_some, Option.bind_some, bU (by omega)]
  unfold aCj
  have hw : (decide (0 ≤ p.Prizes[i]) && decide (p.Prizes[i] ≤ 10000000)) = wB p.Prizes[i] 0 10000000 := rfl
  rw [hw]
  cases i with
  | zero =>
   have hc : decide (0 < (((0 : Nat) : Int))) = false := rfl
   have hg0 : (p.Prizes.take 0).getLast? = none := by simp
   rw [hc, cond_false, Option.bind_some, eL, Option.bind_some, hg0]
   cases wB p.Prizes[0] 0 10000000 <;> rfl
  | succ j =>
   have hc : decide (0 < (((j + 1 : Nat) : Int))) = true := decide_eq_true (by omega)
   have hgl : (p.Prizes.take (j + 1)).getLast? = some (p.Prizes[j]'(by omega)) := by
    rw [List.take_succ_eq_append_getElem (show j < p.Prizes.length by omega), List.getLast?_concat]
   have ew : w64 (((j + 1 : Nat) : Int) - 1) = ((j : Nat) : Int) := by rw [dF (by omega) (by omega)]; omega
   rw [hc, cond_true, ew, bN (show j < p.Prizes.length by omega), Option.bind_some, Option.bind_some, eL, Option.bind_some, hgl]
   show (bif !wB p.Prizes[j + 1] 0 10000000 || decide (p.Prizes[j + 1] < p.Prizes[j]'(by omega)) then some 100 else iC p k _) = bif wB p.Prizes[j + 1] 0 10000000 && !decide (p.Prizes[j + 1] < p.Prizes[j]'(by omega)) then _ else _
   cases wB p.Prizes[j + 1] 0 10000000 <;> cases decide (p.Prizes[j + 1] < p.Prizes[j]'(by omega)) <;> rfl) (fun k => by
  have hlt : decide ((p.Prizes.length : Int) < (p.Prizes.length : Int)) = false := decide_eq_false (by omega)
  rw [iC, hlt, cond_false]) (by omega)
 refine Eq.trans main ?_
 unfold rR nD
 have ew : w64 (p.Tree.Rounds + 1) = p.Tree.Rounds + 1 := dF (by omega) (by omega)
 rw [ew, aHh, Option.bind_some, eL, Option.bind_some, bGs hz, Option.bind_some]
 have hw : (decide (0 ≤ p.Daily) && decide (p.Daily ≤ 100000)) = wB p.Daily 0 100000 := rfl
 rw [hw]
 simp only [bGr hz, bGq hz, Option.bind_some]
 cases rP p <;> cases aAa p.Prizes aCj <;> cases decide ((p.Prizes.length : Int) = p.Tree.Rounds + 1) <;> cases wB p.Daily 0 100000 <;> rfl
end
structure GP (p : bB) (d : List Int) : Prop where
 good : Good p.Tree p.Slips d
 prizes : nD p = true
 teams : rP p = true
theorem aYu {p : bB} (hz : Sz p) (h : wI p = 0) : ∃ d, GP p d := by
 obtain ⟨d, hg⟩ := hz.good
 unfold wI at h
 have key : nD p = true ∧ rP p = true := by
  revert h
  cases nD p <;> cases rP p <;> simp
 exact ⟨d, hg, key.1, key.2⟩
theorem aUk {p : bB} {d : List Int} (h : GP p d) : wI p = 0 := by
 unfold wI
 rw [h.prizes, h.teams]; rfl
end Go.Am
namespace Go.Am
theorem aZx (l : List bR) (f : bR → Option Bool) (q : bR → Bool) (h : ∀ x ∈ l, f x = some (q x)) (hb : l.length ≤ 1000000) :
  ∃ i : Int, mJ l f = some i ∧ ((i < 0 ∧ l.find? q = none) ∨ ∃ (j : Nat) (hj : j < l.length), i = j ∧ l.find? q = some l[j]) := by
 have key : ∀ (d i k : Nat), l.length - i = d → d < k → i ≤ l.length → ∃ r : Int, eQ l f (l.length : Int) k (i : Nat) = some r ∧ ((r < 0 ∧ (l.drop i).find? q = none) ∨ ∃ (j : Nat) (hj : j < l.length), r = j ∧ (l.drop i).find? q = some l[j]) := by
  intro d
  induction d with
  | zero =>
   intro i k hd hk hi
   obtain ⟨k, rfl⟩ : ∃ q, k = q + 1 := ⟨k - 1, by omega⟩
   have : i = l.length := by omega
   subst this
   have hlt : decide ((l.length : Int) < (l.length : Int)) = false := decide_eq_false (by omega)
   exact ⟨-1, by rw [eQ, hlt, cond_false]; rfl, .inl ⟨by omega, by simp⟩⟩
  | succ d ih =>
   intro i k hd hk hi
   obtain ⟨k, rfl⟩ : ∃ q, k = q + 1 := ⟨k - 1, by omega⟩
   have hil : i < l.length := by omega
   have hlt : decide ((i : Int) < (l.length : Int)) = true := decide_eq_true (by omega)
   rw [eQ, hlt, cond_true, bN hil, Option.bind_some, h _ (List.getElem_mem hil), Option.bind_some, List.drop_eq_getElem_cons hil, List.find?_cons]
   cases q l[i] with
   | true => exact ⟨i, by rw [cond_true], .inr ⟨i, hil, rfl, rfl⟩⟩
   | false => rw [cond_false, bU (by omega)]; exact ih (i + 1) k (by omega) (by omega) (by omega)
 exact key l.length 0 BIG rfl (cG (by omega)) (Nat.zero_le _)
theorem aPm {α : Type} (f g : α → Bool) : ∀ l : List α, (∀ x ∈ l, f x = g x) → l.find? f = l.find? g
 | [], _ => rfl
 | x :: l, h => by rw [List.find?_cons, List.find?_cons, h x List.mem_cons_self, aPm f g l fun y hy => h y (List.mem_cons_of_mem _ hy)]
def aIr (p : bB) : List (List Int) := match dX p.Tree p.Slips with | some r => r.1.Must | none => []
def xE (p : bB) (d : List Int) (n : Int) : cH × Int := rJ p.Tree d (aIr p) n
theorem aSm {p : bB} {d : List Int} (h : Good p.Tree p.Slips d) : dX p.Tree p.Slips = some (⟨d, aIr p⟩, true) ∧ MustIs p.Tree (aIr p) (gE d (Res p.Slips)) := by
 obtain ⟨must, hd, hM⟩ := zJ h
 have : aIr p = must := by unfold aIr; rw [hd]
 rw [this]; exact ⟨hd, hM⟩
theorem bDs {p : bB} {d : List Int} (h : Good p.Tree p.Slips d) (n : Int) : kK p.Tree p.Slips n = some (xE p d n) := by
 obtain ⟨h1, h2⟩ := aSm h
 exact aKc h h1 h2 n
theorem aWv (p : bB) (d : List Int) (n : Int) (hr : 0 ≤ p.Tree.Rounds) : (0 ≤ (xE p d n).1.Low ∧ (xE p d n).1.Low ≤ p.Tree.Rounds) ∧ (0 ≤ (xE p d n).1.High ∧ (xE p d n).1.High ≤ p.Tree.Rounds) := by
 unfold xE rJ
 split
 ·split
  ·simp only; omega
  ·have h1 := aGj (aCt d (aIr p) (wE d n).toNat) p.Tree.Rounds.toNat
   have h2 := aGj (aKe d (aIr p) (wE d n).toNat) p.Tree.Rounds.toNat
   unfold rJ.leftFrom rJ.mostFrom aHc xO
   simp only; omega
 ·simp only; omega
def aLs (t : bR) (person prize : Int) : Int := if t.Two = -1 then prize else if t.One = person then (prize + 1).tdiv 2 else prize.tdiv 2
def mF (p : bB) (i : Int) : Int := p.Prizes.getD i.toNat 0
def aZw (p : bB) (d : List Int) (person : Int) (t : bR) : cH :=
 if (xE p d t.Player).2 = 0 then ⟨aLs t person (mF p (xE p d t.Player).1.Low), aLs t person (mF p (xE p d t.Player).1.High)⟩ else ⟨0, 0⟩
def aPo (p : bB) (d : List Int) (person : Int) : cH := match aFd p person with | some t => aZw p d person t | none => ⟨0, 0⟩
theorem aEu {p : bB} (h : nD p = true) : ((∀ x ∈ p.Prizes, 0 ≤ x ∧ x ≤ 10000000) ∧ ∀ i (hi : i + 1 < p.Prizes.length), p.Prizes[i]'(by omega) ≤ p.Prizes[i + 1]) ∧ (p.Prizes.length : Int) = p.Tree.Rounds + 1 ∧ 0 ≤ p.Daily ∧ p.Daily ≤ 100000 := by
 unfold nD at h
 simp only [Bool.and_eq_true, decide_eq_true_eq, aWb] at h
 exact ⟨(aNj _).1 h.1.1, h.1.2, h.2⟩
theorem xA {p : bB} (h : nD p = true) {i : Int} (h0 : 0 ≤ i) (h1 : i ≤ p.Tree.Rounds) : idx p.Prizes i = some (mF p i) ∧ 0 ≤ mF p i ∧ mF p i ≤ 10000000 := by
 obtain ⟨⟨a1, a2⟩, a3, _⟩ := aEu h
 have hl : i.toNat < p.Prizes.length := by omega
 have e : mF p i = p.Prizes[i.toNat] := by unfold mF; simp [List.getD, List.getElem?_eq_getElem hl]
 rw [aMe h0 hl, e]
 exact ⟨rfl, a1 _ (List.getElem_mem _)⟩
theorem bCj {p : bB} (ht : ∀ t ∈ p.Teams, qQ t = true) (n : Int) : p.Teams.find? (fun t => decide (t.One = n) || (decide (t.Two = n) && !decide (t.Two = -1))) = aFd p n := by
 unfold aFd
 refine aPm _ _ _ fun t h => ?_
 have := xG.1 (ht t h)
 congr 1
 by_cases h2 : t.Two = n
 ·rw [decide_eq_true h2]
  by_cases h3 : t.Two = -1
  ·rw [decide_eq_true h3, decide_eq_false (by omega)]; rfl
  ·rw [decide_eq_false h3, decide_eq_true (by omega)]; rfl
 ·rw [decide_eq_false h2]; rfl
theorem bBo {t : bR} {person prize : Int} (h0 : 0 ≤ prize) (h1 : prize ≤ 10000000) : sC prize t person = some (aLs t person prize) := by
 have e1 : (prize + 1).tdiv 2 = (prize + 1) / 2 := Int.tdiv_eq_ediv_of_nonneg (by omega)
 have e2 : prize.tdiv 2 = prize / 2 := Int.tdiv_eq_ediv_of_nonneg (by omega)
 have w1 : w64 (prize + 1) = prize + 1 := dF (by omega) (by omega)
 have w2 : w64 ((prize + 1).tdiv 2) = (prize + 1).tdiv 2 := by rw [e1]; exact dF (by omega) (by omega)
 have w3 : w64 (prize.tdiv 2) = prize.tdiv 2 := by rw [e2]; exact dF (by omega) (by omega)
 unfold sC aLs
 rw [w1, w2, w3]
 by_cases h2 : t.Two = -1
 ·rw [decide_eq_true h2, if_pos h2]; rfl
 ·rw [decide_eq_false h2, if_neg h2, cond_false]
  by_cases h3 : t.One = person
  ·rw [decide_eq_true h3, if_pos h3]; rfl
  ·rw [decide_eq_false h3, if_neg h3]; rfl
section
variable {p : bB} (hz : Sz p) {d : List Int} (h : GP p d)
include hz h
theorem bHc (person : Int) : yL p person = some (aPo p d person, aIm p person) := by
 have ht := aZy h.teams
 have h1 := hz.teams
 unfold yL aPo
 obtain ⟨i, hi, hc⟩ := aZx p.Teams (fun y4 => vG y4 person) (fun t => decide (t.One = person) || (decide (t.Two = person) && !decide (t.Two = -1))) (fun x _ => by
  unfold vG
  rw [dG, Option.bind_some, eL, Option.bind_some]) (by omega)
 rw [bCj ht] at hc
 have hip := bGd ht person
 rw [hi, Option.bind_some]
 rcases hc with ⟨h2, h3⟩ | ⟨j, hj, rfl, h3⟩
 ·rw [decide_eq_true h2, cond_true, h3]
  rw [h3] at hip
  rw [← hip]; rfl
 ·have hmem := List.mem_of_find?_eq_some (show p.Teams.find? _ = some p.Teams[j] from h3)
  have hsat := List.find?_some (show p.Teams.find? _ = some p.Teams[j] from h3)
  have htb := xG.1 (ht _ hmem)
  simp only [Bool.or_eq_true, Bool.and_eq_true, decide_eq_true_eq] at hsat
  have hpn : 0 ≤ person := by rcases hsat with h4 | h4 <;> omega
  rw [h3] at hip ⊢
  rw [decide_eq_true hpn] at hip
  have hip' : aIm p person = true := by rw [← hip]; rfl
  have hr := aWv p d p.Teams[j].Player (by have := h.good.ht.r1; omega)
  have q1 := xA h.prizes hr.1.1 hr.1.2
  have q2 := xA h.prizes hr.2.1 hr.2.2
  unfold tH
  rw [decide_eq_false (by omega), cond_false, bN hj, Option.bind_some, bDs h.good, Option.bind_some, hip']
  simp only
  unfold aZw
  by_cases h0 : (xE p d p.Teams[j].Player).2 = 0
  ·rw [decide_eq_true h0, if_pos h0, Bool.not_true, cond_false, q1.1, Option.bind_some, bBo q1.2.1 q1.2.2, Option.bind_some, q2.1, Option.bind_some, bBo q2.2.1 q2.2.2, Option.bind_some]
  ·rw [decide_eq_false h0, if_neg h0, Bool.not_false, cond_true]
end
end Go.Am
namespace Go.Am
section
variable {p : bB} (hz : Sz p) {d : List Int} (h : GP p d)
include hz h
theorem bFp (person : Int) : vO p person = some (bif aIm p person then (aPo p d person, 0) else (⟨0, 0⟩, 1)) := by
 unfold vO
 rw [aQe hz, Option.bind_some, aUk h, decide_eq_true rfl, Bool.not_true, cond_false, bHc hz h, Option.bind_some]
 cases aIm p person <;> rfl
end
section
variable {p : bB} (hz : Sz p)
include hz
end
end Go.Am
namespace Go.Am
theorem aEk {α : Type} (g : α → Int) : ∀ (l : List α) (s : Int), l.foldl (fun s x => s + g x) s = s + (l.map g).sum
 | [], s => by simp
 | x :: l, s => by rw [List.foldl_cons, aEk g l, List.map_cons, List.sum_cons, Int.add_assoc]
theorem aLw {α : Type} (g : α → Int) (B : Int) : ∀ (l : List α), (∀ x ∈ l, -B ≤ g x ∧ g x ≤ B) → -(B * l.length) ≤ (l.map g).sum ∧ (l.map g).sum ≤ B * l.length
 | [], _ => by simp
 | x :: l, h => by
  have h1 := aLw g B l fun y hy => h y (List.mem_cons_of_mem _ hy)
  have h2 := h x List.mem_cons_self
  have e : B * (((x :: l).length : Nat) : Int) = B * l.length + B := by rw [List.length_cons, Int.natCast_add, Int.mul_add]; simp
  rw [List.map_cons, List.sum_cons, e]; omega
def vH (p : bB) (i : Nat) : Int := mF p i * 2 ^ (p.Tree.Rounds.toNat - 1 - i)
def aEd (p : bB) (x : Int) : Int := bif decide (x = -1) then -mF p 0 else 0
def aZg (p : bB) : Int := mF p p.Tree.Rounds + ((List.range p.Tree.Rounds.toNat).map (vH p)).sum + (p.Tree.Slots.map (aEd p)).sum
theorem bHr {n : Nat} (h : n ≤ 4) : (1 : Int) ≤ 2 ^ n ∧ (2 : Int) ^ n ≤ 16 := by
 have : n = 0 ∨ n = 1 ∨ n = 2 ∨ n = 3 ∨ n = 4 := by omega
 rcases this with rfl | rfl | rfl | rfl | rfl <;> decide
section
variable {p : bB} (hz : Sz p) {d : List Int} (h : GP p d)
include h
theorem aNk {i : Nat} (hi : i < p.Tree.Rounds.toNat) : 0 ≤ vH p i ∧ vH p i ≤ 160000000 := by
 have h5 := h.good.ht.r5
 have h1 := h.good.ht.r1
 have q := (xA h.prizes (i := (i : Int)) (by omega) (by omega)).2
 have w := bHr (n := p.Tree.Rounds.toNat - 1 - i) (by omega)
 unfold vH
 have m1 := Int.mul_nonneg q.1 (show (0 : Int) ≤ 2 ^ (p.Tree.Rounds.toNat - 1 - i) by omega)
 have m2 : mF p i * 2 ^ (p.Tree.Rounds.toNat - 1 - i) ≤ 10000000 * 16 := Int.mul_le_mul q.2 w.2 (by omega) (by omega)
 omega
theorem bAh (x : Int) : -10000000 ≤ aEd p x ∧ aEd p x ≤ 10000000 := by
 have h1 := h.good.ht.r1
 have q := (xA h.prizes (i := 0) (by omega) (by omega)).2
 unfold aEd
 cases decide (x = -1) <;> simp <;> omega
theorem aNl (i : Nat) : -(160000000 * 5) ≤ (((List.range p.Tree.Rounds.toNat).take i).map (vH p)).sum ∧ (((List.range p.Tree.Rounds.toNat).take i).map (vH p)).sum ≤ 160000000 * 5 := by
 have h5 := h.good.ht.r5
 have := aLw (vH p) 160000000 ((List.range p.Tree.Rounds.toNat).take i) fun x hx => by
  have := List.mem_range.1 (List.mem_of_mem_take hx)
  have := aNk h this
  omega
 have hl : ((List.range p.Tree.Rounds.toNat).take i).length ≤ 5 := by rw [List.length_take, List.length_range]; omega
 omega
theorem bAi (l : List Int) (hl : l.length ≤ 1000) : -(10000000 * 1000) ≤ (l.map (aEd p)).sum ∧ (l.map (aEd p)).sum ≤ 10000000 * 1000 := by
 have := aLw (aEd p) 10000000 l fun x _ => bAh h x
 omega
include hz
theorem bEn : oX p = some (aZg p, 0) := by
 have h5 := h.good.ht.r5
 have h1 := h.good.ht.r1
 have hs := hz.slots
 have qR := xA h.prizes (i := p.Tree.Rounds) (by omega) (by omega)
 have q0 := xA h.prizes (i := 0) (by omega) (by omega)
 unfold oX
 rw [aQe hz, Option.bind_some, aUk h, decide_eq_true rfl, Bool.not_true, cond_false, qR.1, Option.bind_some]
 have main := aKt (fun k i s => nG p.Tree.Rounds p k s i) (List.range p.Tree.Rounds.toNat) (fun s i => s + vH p i) (fun s => yQ s p) (mF p p.Tree.Rounds) ?_ ?_ BIG (cG (by rw [List.length_range]; omega))
 ·refine Eq.trans main ?_
  rw [aEk]
  unfold yQ
  have rt := aNl h p.Tree.Rounds.toNat
  rw [List.take_of_length_le (by rw [List.length_range]; omega)] at rt
  obtain ⟨A, hA⟩ : ∃ A, A = mF p p.Tree.Rounds + ((List.range p.Tree.Rounds.toNat).map (vH p)).sum := ⟨_, rfl⟩
  rw [← hA]
  have main2 := aKt (fun k i s => nH p.Tree.Slots (p.Tree.Slots.length : Int) p k s i) p.Tree.Slots (fun s x => s + aEd p x) (fun s => some (s, (0 : Int))) A ?_ ?_ BIG (cG (by omega))
  ·refine Eq.trans main2 ?_
   rw [aEk, hA]; rfl
  ·intro k i hi s hs'
   have hlt : decide ((i : Int) < (p.Tree.Slots.length : Int)) = true := decide_eq_true (by omega)
   have bt := bAi h (p.Tree.Slots.take i) (by rw [List.length_take]; omega)
   rw [aEk] at hs'
   simp only [nH, hlt, cond_true, bN hi, Option.bind_some, bU (show i < 9223372036854775807 by omega)]
   unfold aEd
   cases decide (p.Tree.Slots[i] = -1) with
   | true => rw [cond_true, cond_true, q0.1, Option.bind_some, dF (by omega) (by omega)]; rfl
   | false => rw [cond_false, cond_false, Int.add_zero]
  ·intro k s
   have hlt : decide ((p.Tree.Slots.length : Int) < (p.Tree.Slots.length : Int)) = false := decide_eq_false (by omega)
   simp only [nH, hlt, cond_false]; rfl
 ·intro k i hi s hs'
  have hi' : i < p.Tree.Rounds.toNat := by simpa using hi
  have hlt : decide ((i : Int) < p.Tree.Rounds) = true := decide_eq_true (by omega)
  have rt := aNl h i
  have rr := aNk h hi'
  rw [aEk] at hs'
  have qi := xA h.prizes (i := (i : Int)) (by omega) (by omega)
  have e1 : w64 ((w64 (p.Tree.Rounds - 1)) - (i : Int)) = ((p.Tree.Rounds.toNat - 1 - i : Nat) : Int) := by rw [dF (show -9223372036854775808 ≤ p.Tree.Rounds - 1 by omega) (by omega), dF (by omega) (by omega)]; omega
  have e2 : min (((p.Tree.Rounds.toNat - 1 - i : Nat) : Int)).toNat 64 = p.Tree.Rounds.toNat - 1 - i := by omega
  simp only [nG, hlt, cond_true, qi.1, Option.bind_some, e1, e2, bU (show i < 9223372036854775807 by omega)]
  rw [decide_eq_true (by omega)]
  show nG p.Tree.Rounds p k (w64 (s + w64 (vH p i))) _ = _
  rw [dF (n := vH p i) (by omega) (by omega), dF (by omega) (by omega), List.getElem_range]
 ·intro k s
  have hlt : decide ((((List.range p.Tree.Rounds.toNat).length : Nat) : Int) < p.Tree.Rounds) = false := decide_eq_false (by rw [List.length_range]; omega)
  simp only [nG, hlt, cond_false]
end
section
variable {p : bB} (hz : Sz p)
include hz
end
end Go.Am
