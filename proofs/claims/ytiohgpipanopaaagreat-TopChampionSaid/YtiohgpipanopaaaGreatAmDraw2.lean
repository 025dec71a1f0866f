/- The program logic 'Am': a region whose order is open, in which objects are made and changed. -/
import Derived.Test.YtiohgpipanopaaaGreatAmDraw
namespace Go.Am
structure XV where
 b : Nat
 v : Value
abbrev Mk := Nat → XV
def aFk (X : Mk) (i : Nat) (x : XV) : Mk := fun k => bif Nat.beq k i then x else X k
def Sp (i : Nat) (S : Nat → Bool) : Nat → Bool := fun j => Nat.beq j i || S j
abbrev Stg := List (Nat × MO) × MO
def rS (S : Nat → Bool) : List (Nat × MO) → MO → MO
 | [], m => m
 | (i, x) :: l, m => bif S i then x else rS S l m
def gA (S : Nat → Bool) : List Stg → List MO
 | [] => []
 | s :: r => rS S s.1 s.2 :: gA S r
def aDa (yes no : List Nat) : List (Nat × MO) → MO → Option MO
 | [], m => some m
 | (i, x) :: l, m => bif fY i yes then some x else bif fY i no then aDa yes no l m else none
def aEk (i : Nat) : List (Nat × MO) → Bool
 | [] => false
 | (j, _) :: l => Nat.beq j i || aEk i l
def aBk (i : Nat) : List Stg → Bool
 | [] => true
 | s :: r => !(aEk i s.1) && aBk i r
def zN (i : Nat) : Nat → List Stg → Bool
 | _, [] => true
 | 0, _ :: r => aBk i r
 | p + 1, s :: r => !(aEk i s.1) && zN i p r
def xB (m : Nat) : List Stg → Bool
 | [] => true
 | s :: r => s.1.all (fun x => Nat.blt x.1 m) && xB m r
theorem aBm {S : Nat → Bool} {yes no : List Nat} (hS : Knows S yes no) : ∀ {l : List (Nat × MO)} {m x : MO}, aDa yes no l m = some x → rS S l m = x
 | [], m, x, h => by simpa [aDa, rS] using h
 | (i, y) :: l, m, x, h => by
  simp only [aDa] at h
  simp only [rS]
  cases hy : fY i yes with
  | true => rw [hy] at h; simp at h; simp [hS.y i hy, h]
  | false =>
   cases hn : fY i no with
   | true => rw [hy, hn] at h; simp at h; simp [hS.n i hn, aBm hS h]
   | false => rw [hy, hn] at h; simp at h
theorem og {S : Nat → Bool} {yes no : List Nat} {objs : List MO} {i : Nat} {l : List (Nat × MO)} {m x : MO} (hS : Knows S yes no) (h : objs[i]? = some (rS S l m)) (h2 : aDa yes no l m = some x) : objs[i]? = some x := by
 rw [h, aBm hS h2]
theorem aSa {i j : Nat} {S : Nat → Bool} (h : Nat.beq j i = false) : Sp i S j = S j := by simp [Sp, h]
theorem aFa {i : Nat} {S : Nat → Bool} : ∀ {l : List (Nat × MO)} {m : MO}, aEk i l = false → rS (Sp i S) l m = rS S l m
 | [], _, _ => rfl
 | (j, x) :: l, m, h => by
  simp only [aEk, Bool.or_eq_false_iff] at h
  simp only [rS, aSa h.1, aFa h.2]
theorem aCx {i : Nat} {S : Nat → Bool} : ∀ {obs : List Stg}, aBk i obs = true → gA (Sp i S) obs = gA S obs
 | [], _ => rfl
 | s :: r, h => by
  simp only [aBk, Bool.and_eq_true, Bool.not_eq_true'] at h
  simp only [gA, aFa h.1, aCx h.2]
theorem aAe {i : Nat} {S : Nat → Bool} : ∀ {p : Nat} {obs : List Stg}, zN i p obs = true → ∀ {s : Stg} {x : MO}, obs[p]? = some s → rS (Sp i S) s.1 s.2 = x → gA (Sp i S) obs = (gA S obs).set p x
 | p, [], _, s, x, h, _ => by simp at h
 | 0, s0 :: r, ho, s, x, h, hx => by
  simp at h; subst h; subst hx
  simp only [gA, List.set_cons_zero]
  rw [aCx ho]
 | p + 1, s0 :: r, ho, s, x, h, hx => by
  simp only [zN, Bool.and_eq_true, Bool.not_eq_true'] at ho
  simp only [gA, List.set_cons_succ, aFa ho.1]
  rw [aAe ho.2 (by simpa using h) hx]
theorem aJf {m : Nat} {S S' : Nat → Bool} (hS : ∀ j, j < m → S' j = S j) : ∀ {l : List (Nat × MO)} {x : MO}, (l.all fun x => Nat.blt x.1 m) = true → rS S' l x = rS S l x
 | [], _, _ => rfl
 | (j, y) :: l, x, h => by
  simp only [List.all_cons, Bool.and_eq_true] at h
  simp only [rS, hS j (aH h.1), aJf hS h.2]
theorem aGr {m : Nat} {S S' : Nat → Bool} (hS : ∀ j, j < m → S' j = S j) : ∀ {obs : List Stg}, xB m obs = true → gA S' obs = gA S obs
 | [], _ => rfl
 | s :: r, h => by
  simp only [xB, Bool.and_eq_true] at h
  simp only [gA, aJf hS h.1, aGr hS h.2]
def aQh (no : List Nat) : Tab → Tab → Prop
 | [], [] => True
 | x :: l, x' :: l' => x.1 = x'.1 ∧ x.2.1 = x'.2.1 ∧ (fY x.2.1 no = true ∨ x.2.2 = x'.2.2) ∧ aQh no l l'
 | _, _ => False
def aMh (no : List Nat) : List (Nat × MO) → List (Nat × MO) → Prop
 | [], [] => True
 | x :: l, x' :: l' => x.1 = x'.1 ∧ (fY x.1 no = true ∨ x.2 = x'.2) ∧ aMh no l l'
 | _, _ => False
def aMg (no : List Nat) : List Stg → List Stg → Prop
 | [], [] => True
 | s :: r, s' :: r' => aMh no s.1 s'.1 ∧ s.2 = s'.2 ∧ aMg no r r'
 | _, _ => False
theorem aIt {no : List Nat} {S : Nat → Bool} {base : Nat → AV} (hS : ∀ j, fY j no = true → S j = false) : ∀ {t t' : Tab}, aQh no t t' → ∀ k, ov t S base k = ov t' S base k
 | [], [], _, k => rfl
 | (d, j, v) :: l, (d', j', v') :: l', h, k => by
  obtain ⟨h1, h2, h3, h4⟩ := h
  simp only at h1 h2 h3
  subst h1; subst h2
  have ih := aIt (base := base) hS h4 k
  unfold ov at ih ⊢
  simp only [find]
  cases hk : Nat.beq d k with
  | false => simpa using ih
  | true =>
   simp only [cond_true]
   rcases h3 with h3 | h3
   ·rw [hS j h3]; rfl
   ·rw [h3]
theorem aJe {no : List Nat} {S : Nat → Bool} (hS : ∀ j, fY j no = true → S j = false) : ∀ {l l' : List (Nat × MO)} {m : MO}, aMh no l l' → rS S l m = rS S l' m
 | [], [], _, _ => rfl
 | (j, x) :: l, (j', x') :: l', m, h => by
  obtain ⟨h1, h2, h3⟩ := h
  simp only at h1 h2
  subst h1
  simp only [rS, aJe hS h3]
  rcases h2 with h2 | h2
  ·rw [hS j h2]; rfl
  ·rw [h2]
theorem aGq {no : List Nat} {S : Nat → Bool} (hS : ∀ j, fY j no = true → S j = false) : ∀ {o o' : List Stg}, aMg no o o' → gA S o = gA S o'
 | [], [], _ => rfl
 | s :: r, s' :: r', h => by
  simp only [gA, aJe hS h.1, h.2.1, aGq hS h.2.2]
def aFw (i : Nat) : Tab → Bool
 | [] => true
 | x :: l => !(Nat.beq x.2.1 i) && aFw i l
theorem aIu {i : Nat} : ∀ {t : Tab}, aFw i t = true → ∀ {k j : Nat} {v : AV}, find t k = some (j, v) → Nat.beq j i = false
 | [], _, k, j, v, h => by simp [find] at h
 | (d0, j0, v0) :: l, hn, k, j, v, h => by
  simp only [aFw, Bool.and_eq_true, Bool.not_eq_true'] at hn
  simp only [find] at h
  cases hb : Nat.beq d0 k with
  | true => rw [hb] at h; simp at h; rw [← h.1]; exact hn.1
  | false => rw [hb] at h; exact aIu hn.2 (by simpa using h)
theorem aVj {i : Nat} {t : Tab} {S : Nat → Bool} {base : Nat → AV} (hn : aFw i t = true) (k : Nat) : ov t (Sp i S) base k = ov t S base k := by
 unfold ov
 cases hf : find t k with
 | none => rfl
 | some p =>
  obtain ⟨j, v⟩ := p
  simp only [aSa (aIu hn hf)]
theorem Knows.sp {S : Nat → Bool} {yes no : List Nat} {i : Nat} (h : Knows S yes no) (hn : fY i no = false) : Knows (Sp i S) (i :: yes) no := by
 refine ⟨fun j hj => ?_, fun j hj => ?_⟩
 ·simp only [fY] at hj
  cases hb : Nat.beq i j with
  | true => have := Nat.eq_of_beq_eq_true hb; subst this; simp [Sp]
  | false => rw [hb] at hj; simp only [cond_false] at hj; simp [Sp, h.y j hj]
 ·have : Nat.beq j i = false := by
   cases hb : Nat.beq j i with
   | false => rfl
   | true => have := Nat.eq_of_beq_eq_true hb; subst this; rw [hn] at hj; cases hj
  rw [aSa this]; exact h.n j hj
theorem Knows.tl {S : Nat → Bool} {yes no : List Nat} {i : Nat} (h : Knows S yes (i :: no)) : Knows S yes no := ⟨h.y, fun j hj => h.n j (by simp only [fY]; cases Nat.beq i j <;> simp [hj])⟩
theorem Knows.cons {S : Nat → Bool} {yes no : List Nat} {i : Nat} (h : Knows S yes no) (hi : S i = false) : ∀ j, fY j (i :: no) = true → S j = false := by
 intro j hj
 simp only [fY] at hj
 cases hb : Nat.beq i j with
 | true => have := Nat.eq_of_beq_eq_true hb; subst this; exact hi
 | false => rw [hb] at hj; exact h.n j (by simpa using hj)
def zX (P : Program) (n : Nat) (ops : Array Oper) (o : Oper) (tab : Mk → Tab) (base : Nat → AV) (obs : Mk → List Stg) (i : Nat) (X : Mk) (S : Nat → Bool) : Prop :=
 GStepP P n ops o ⟨ov (tab X) S base, gA S (obs X)⟩ (fun s => ∃ X', Ent s ⟨ov (tab X') (Sp i S) base, gA (Sp i S) (obs X')⟩)
def XSteps (P : Program) (n : Nat) (ops : Array Oper) (tab : Mk → Tab) (base : Nat → AV) (obs : Mk → List Stg) : List Oper → List (List Nat × List Nat) → Nat → Prop
 | [], _, _ => True
 | o :: l, yn, i => (∀ (X : Mk) (S : Nat → Bool), (∀ X, kQ (tab X) = true) → S i = false → Knows S (yn.headD ([], [])).1 (i :: (yn.headD ([], [])).2) →
   zX P n ops o tab base obs i X S) ∧ XSteps P n ops tab base obs l yn.tail (i + 1)
theorem XSteps.get {P : Program} {n : Nat} {ops : Array Oper} {tab : Mk → Tab} {base : Nat → AV} {obs : Mk → List Stg} : ∀ {l : List Oper} {yn : List (List Nat × List Nat)} {k : Nat}, XSteps P n ops tab base obs l yn k → ∀ {i : Nat} {o : Oper}, l[i]? = some o →
  ∀ (X : Mk) (S : Nat → Bool), (∀ X, kQ (tab X) = true) → S (k + i) = false → Knows S (yn.getD i ([], [])).1 ((k + i) :: (yn.getD i ([], [])).2) →
   zX P n ops o tab base obs (k + i) X S
 | [], _, _, _, i, o, h => by simp at h
 | _ :: _, yn, k, h, 0, o, ho => by
  simp at ho; subst ho
  have := h.1
  cases yn <;> simpa using this
 | _ :: l, yn, k, h, i + 1, o, ho => by
  have := h.2.get (i := i) (by simpa using ho)
  rw [show k + 1 + i = k + (i + 1) by omega] at this
  cases yn <;> simpa using this
section
variable {P : Program} {n : Nat} {st : St} {Q : Exit → St → Prop} {ops : Array Oper} {o : Oper}
theorem GStep.toP' {st1 st2 : St} (h : GStep P n ops o st1 st2) {Post : St → Prop} (hp : Post st2) : GStepP P n ops o st1 Post := by
 rcases h with ⟨hw, h⟩ | ⟨hw, d, ho, hd, rfl⟩
 ·exact .inl ⟨hw, fun A M w0 a w hR K Q hK => h A M w0 a w hR K Q fun s a' w' e hR' => hK s a' w' (e ▸ hp) hR'⟩
 ·exact .inr ⟨hw, d, ho, hd, hp⟩
def nob : MO := .box 0 0 []
theorem aWu {env : Nat → AV} {objs : List MO} : Ent ⟨env, objs⟩ ⟨env, objs ++ [nob]⟩ := by
 intro A M w0 n a w hR
 refine hR.change (Keeps.refl (fun _ _ => False) w) (fun _ _ h => h.elim) (fun b o _ hx => ?_) ?_ fun hm m hmm => ?_
 ·rcases nF.1 hx with h | ⟨m, hm, hf⟩
  ·exact h
  ·simp at hm; subst hm; obtain ⟨_, h1, h2⟩ := hf; simp at h2
 ·refine List.pairwise_append.2 ⟨hR.inv.sep, by simp, fun x hx y hy b o h1 h2 => ?_⟩
  simp at hy; subst hy; obtain ⟨_, h3, h4⟩ := h2; simp at h4
 ·rcases List.mem_append.1 hmm with h | h
  ·exact cV (hR.inv.holds m h) (Keeps.refl (fun _ _ => False) w) (fun _ _ _ h => h) hm
  ·simp at h; subst h
   exact ⟨[], trivial, fun j v h => by simp at h, fun j h => by simp at h⟩
theorem aNc {env : Nat → AV} {objs : List MO} : ∀ q, Ent ⟨env, objs⟩ ⟨env, objs ++ List.replicate q nob⟩
 | 0 => by simpa using Ent.refl _
 | q + 1 => by
  have := (aNc (env := env) (objs := objs) q).trans aWu
  rwa [List.append_assoc, ← List.replicate_succ'] at this
theorem aYr {tab : Mk → Tab} {base : Nat → AV} {obs : Mk → List Stg} {X : Mk} {S : Nat → Bool} {i d : Nat} {v : AV} (hf : find (tab X) d = some (i, v)) (hown : kQ (tab X) = true) (hfree : aBk i (obs X) = true)
  (h : GStep P n ops o ⟨ov (tab X) S base, gA S (obs X)⟩ ⟨upd (ov (tab X) S base) d v, gA S (obs X)⟩) :
  zX P n ops o tab base obs i X S := by
 refine h.toP' ⟨X, ?_⟩
 have : ov (tab X) (Sp i S) base = upd (ov (tab X) S base) d v := funext fun k => aFx hown hf k
 rw [this, aCx hfree]
 exact Ent.refl _
theorem aXt {tab : Mk → Tab} {base : Nat → AV} {obs : Mk → List Stg} {X : Mk} {S : Nat → Bool} {yes no : List Nat} {i p : Nat} {s0 : Stg} {mo : MO} (hS : Knows S yes (i :: no)) (hno : fY i no = false) (hn : aFw i (tab X) = true) (ho : zN i p (obs X) = true)
  (hp : (obs X)[p]? = some s0) (hm : aDa (i :: yes) no s0.1 s0.2 = some mo)
  (h : GStep P n ops o ⟨ov (tab X) S base, gA S (obs X)⟩ ⟨ov (tab X) S base, (gA S (obs X)).set p mo⟩) :
  zX P n ops o tab base obs i X S := by
 refine h.toP' ⟨X, ?_⟩
 have : ov (tab X) (Sp i S) base = ov (tab X) S base := funext fun k => aVj hn k
 rw [this, aAe ho hp (aBm (hS.tl.sp hno) hm)]
 exact Ent.refl _
theorem aUb {tab : Mk → Tab} {base : Nat → AV} {obs : Mk → List Stg} {X : Mk} {S : Nat → Bool} {yes no : List Nat} {i d p : Nat} {v : AV} {s0 : Stg} {mo : MO} (hS : Knows S yes (i :: no)) (hg : o.guard = none) (hno : fY i no = false)
  (hf : find (tab X) d = some (i, v)) (hown : kQ (tab X) = true) (ho : zN i p (obs X) = true) (hp : (obs X)[p]? = some s0) (hm : aDa (i :: yes) no s0.1 s0.2 = some mo)
  (h : Step P n o ⟨ov (tab X) S base, gA S (obs X)⟩ (fun s => Ent s ⟨upd (ov (tab X) S base) d v, (gA S (obs X)).set p mo⟩)) :
  zX P n ops o tab base obs i X S := by
 refine .inl ⟨fun _ _ _ _ _ _ => by simp [Region.wanted, hg], fun A M w0 a w hR K Q hK => h A M w0 a w hR K Q fun s a' w' he hR' => hK s a' w' ⟨X, ?_⟩ hR'⟩
 have : ov (tab X) (Sp i S) base = upd (ov (tab X) S base) d v := funext fun k => aFx hown hf k
 rw [this, aAe ho hp (aBm (hS.tl.sp hno) hm)]
 exact he
theorem iK {tab : Mk → Tab} {base : Nat → AV} {obs : Mk → List Stg} {X : Mk} {S : Nat → Bool} {yes no : List Nat} {i d p : Nat} {v : XV → AV} {s0 : XV → Stg} {mo : XV → MO} (hS : Knows S yes (i :: no)) (hi : S i = false) (hg : o.guard = none) (hno : fY i no = false)
  (hf : ∀ x, find (tab (aFk X i x)) d = some (i, v x)) (hown : ∀ X, kQ (tab X) = true) (ho : ∀ X, zN i p (obs X) = true) (hp : ∀ x, (obs (aFk X i x))[p]? = some (s0 x)) (hm : ∀ x, aDa (i :: yes) no (s0 x).1 (s0 x).2 = some (mo x))
  (hat : ∀ x, aQh (i :: no) (tab (aFk X i x)) (tab X)) (hao : ∀ x, aMg (i :: no) (obs (aFk X i x)) (obs X))
  (h : Step P n o ⟨ov (tab X) S base, gA S (obs X)⟩ (fun s => ∃ x, Ent s ⟨upd (ov (tab X) S base) d (v x), (gA S (obs X)).set p (mo x)⟩)) :
  zX P n ops o tab base obs i X S := by
 refine .inl ⟨fun _ _ _ _ _ _ => by simp [Region.wanted, hg], fun A M w0 a w hR K Q hK => h A M w0 a w hR K Q ?_⟩
 rintro s a' w' ⟨x, he⟩ hR'
 refine hK s a' w' ⟨aFk X i x, ?_⟩ hR'
 have h1 : ov (tab (aFk X i x)) (Sp i S) base = upd (ov (tab X) S base) d (v x) := by
  funext k
  rw [show ov (tab (aFk X i x)) (Sp i S) base k = _ from aFx (hown _) (hf x) k]
  have : ov (tab (aFk X i x)) S base = ov (tab X) S base := funext fun k => aIt (hS.n) (hat x) k
  rw [this]
 rw [h1, aAe (ho _) (hp x) (aBm (hS.tl.sp hno) (hm x)), aGq (hS.n) (hao x)]
 exact he
def XOK (P : Program) (n : Nat) (l : List Oper) (m q : Nat) (tab : Mk → Tab) (obs : Mk → List Stg) (st : St) : Prop :=
 xK l = true ∧ tP (kR l l.length) m l.length = true ∧ Nat.ble m l.length = true ∧ (∀ X, kQ (tab X) = true) ∧ (∀ X, ((tab X).all fun x => Nat.blt x.2.1 m) = true) ∧ (∀ X, xB m (obs X) = true) ∧
  (∀ X, gA (fun _ => false) (obs X) = st.objs ++ List.replicate q nob) ∧
  ∃ yn, aHy (kR l l.length) m yn = true ∧ XSteps P n l.toArray tab st.env obs (l.take m) yn 0
theorem aVx {id : Nat} {l : List Oper} (hm : P.follows .mixedOrders = true) (m q : Nat) (tab : Mk → Tab) (obs : Mk → List Stg) (ks : List Nat) (us : Mk → List (Nat × AV)) (objs : Mk → List MO) (h : XOK P n l m q tab obs st)
  (he : ∀ X, Ent ⟨ov (tab X) (fun _ => true) st.env, gA (fun _ => true) (obs X)⟩ ⟨tN (keep ks st.env) (us X), objs X⟩)
  (htail : ∀ X, TrL P n l.toArray (l.drop m) ⟨tN (keep ks st.env) (us X), objs X⟩ Q) : Tr P n (.region id l.toArray true) st Q := by
 obtain ⟨h1, h2, h3, hw, h4, h5, h6, yn, h7, h8⟩ := h
 refine bX (aNc q) ?_
 have h0 : (⟨st.env, st.objs ++ List.replicate q nob⟩ : St) = ⟨ov (tab fun _ => ⟨0, undef⟩) (fun _ => false) st.env, gA (fun _ => false) (obs fun _ => ⟨0, undef⟩)⟩ := by
  rw [h6]
  congr 1
  funext k
  unfold ov
  cases find (tab fun _ => ⟨0, undef⟩) k <;> rfl
 refine aOo m (fun S st' => ∃ X, st' = ⟨ov (tab X) S st.env, gA S (obs X)⟩) hm h1 h2 h3 yn h7 ⟨_, h0⟩ ?_ ?_ ?_
 ·rintro S S' st' hS ⟨X, rfl⟩
  refine ⟨X, ?_⟩
  rw [aGr hS (h5 X)]
  congr 1
  funext k
  unfold ov
  cases hf : find (tab X) k with
  | none => rfl
  | some p =>
   obtain ⟨j, v⟩ := p
   have hjm : j < m := aH (List.all_eq_true.1 (h4 X) _ (zA hf))
   simp [hS j hjm]
 ·rintro i o hoi S st' ⟨X, rfl⟩ hi hk
  have := h8.get hoi X S hw (by rw [Nat.zero_add]; exact hi) ⟨hk.y, by rw [Nat.zero_add]; exact hk.cons hi⟩
  rw [Nat.zero_add] at this
  rcases this with ⟨hw', h⟩ | ⟨hw', d, ho, hd, X', he'⟩
  ·exact .inl ⟨hw', fun A M w0 a w hR K Q hK => h A M w0 a w hR K Q fun s a' w' ⟨X', he'⟩ hR' => hK s a' w' ⟨_, ⟨X', rfl⟩, he'⟩ hR'⟩
  ·exact .inr ⟨hw', d, ho, hd, _, ⟨X', rfl⟩, he'⟩
 ·rintro st' ⟨X, rfl⟩
  exact eP (he X) (htail X)
theorem fB {id : Nat} {l : List Oper} (hm : P.follows .mixedOrders = true) (m : Nat) (ks : List Nat) (us : Mk → List (Nat × AV)) (objs : Mk → List MO)
  (h : ∃ q tab obs, XOK P n l m q tab obs st ∧ ∀ X, Ent ⟨ov (tab X) (fun _ => true) st.env, gA (fun _ => true) (obs X)⟩ ⟨tN (keep ks st.env) (us X), objs X⟩)
  (htail : ∀ X, TrL P n l.toArray (l.drop m) ⟨tN (keep ks st.env) (us X), objs X⟩ Q) : Tr P n (.region id l.toArray true) st Q := by
 obtain ⟨q, tab, obs, h, he⟩ := h
 exact aVx hm m q tab obs ks us objs h he htail
theorem le_refl (e : Nat → AV) : Le e e := fun _ => .inr rfl
theorem eG {Post Post' : St → Prop} (h : Step P n o st Post) (hp : ∀ s, Post s → Post' s) : Step P n o st Post' := fun A M w0 a w hR K Q hK => h A M w0 a w hR K Q fun s a' w' hs hR' => hK s a' w' (hp s hs) hR'
end
end Go.Am
