/- The program logic 'Am': a region whose order is open, in which objects are made and changed. -/
import Derived.Test.YtbbahihlmgampaaGreatAmDraw
namespace Go.Am
structure XV where
 b : Nat
 v : Value
abbrev Mk := Nat → XV
def aEd (X : Mk) (i : Nat) (x : XV) : Mk := fun k => bif Nat.beq k i then x else X k
def Sp (i : Nat) (S : Nat → Bool) : Nat → Bool := fun j => Nat.beq j i || S j
abbrev Stg := List (Nat × MO) × MO
def tC (S : Nat → Bool) : List (Nat × MO) → MO → MO
 | [], m => m
 | (i, x) :: l, m => bif S i then x else tC S l m
def iW (S : Nat → Bool) : List Stg → List MO
 | [] => []
 | s :: r => tC S s.1 s.2 :: iW S r
def aDv (yes no : List Nat) : List (Nat × MO) → MO → Option MO
 | [], m => some m
 | (i, x) :: l, m => bif iK i yes then some x else bif iK i no then aDv yes no l m else none
def aDo (i : Nat) : List (Nat × MO) → Bool
 | [] => false
 | (j, _) :: l => Nat.beq j i || aDo i l
def aAv (i : Nat) : List Stg → Bool
 | [] => true
 | s :: r => !(aDo i s.1) && aAv i r
def aAz (i : Nat) : Nat → List Stg → Bool
 | _, [] => true
 | 0, _ :: r => aAv i r
 | p + 1, s :: r => !(aDo i s.1) && aAz i p r
def wX (m : Nat) : List Stg → Bool
 | [] => true
 | s :: r => s.1.all (fun x => Nat.blt x.1 m) && wX m r
theorem aEn {S : Nat → Bool} {yes no : List Nat} (hS : Knows S yes no) : ∀ {l : List (Nat × MO)} {m x : MO}, aDv yes no l m = some x → tC S l m = x
 | [], m, x, h => by simpa [aDv, tC] using h
 | (i, y) :: l, m, x, h => by
  simp only [aDv] at h
  simp only [tC]
  cases hy : iK i yes with
  | true => rw [hy] at h; simp at h; simp [hS.y i hy, h]
  | false =>
   cases hn : iK i no with
   | true => rw [hy, hn] at h; simp at h; simp [hS.n i hn, aEn hS h]
   | false => rw [hy, hn] at h; simp at h
theorem og {S : Nat → Bool} {yes no : List Nat} {objs : List MO} {i : Nat} {l : List (Nat × MO)} {m x : MO} (hS : Knows S yes no) (h : objs[i]? = some (tC S l m)) (h2 : aDv yes no l m = some x) : objs[i]? = some x := by
 rw [h, aEn hS h2]
theorem aPs {i j : Nat} {S : Nat → Bool} (h : Nat.beq j i = false) : Sp i S j = S j := by simp [Sp, h]
theorem aDw {i : Nat} {S : Nat → Bool} : ∀ {l : List (Nat × MO)} {m : MO}, aDo i l = false → tC (Sp i S) l m = tC S l m
 | [], _, _ => rfl
 | (j, x) :: l, m, h => by
  simp only [aDo, Bool.or_eq_false_iff] at h
  simp only [tC, aPs h.1, aDw h.2]
theorem aCc {i : Nat} {S : Nat → Bool} : ∀ {obs : List Stg}, aAv i obs = true → iW (Sp i S) obs = iW S obs
 | [], _ => rfl
 | s :: r, h => by
  simp only [aAv, Bool.and_eq_true, Bool.not_eq_true'] at h
  simp only [iW, aDw h.1, aCc h.2]
theorem aDt {i : Nat} {S : Nat → Bool} : ∀ {p : Nat} {obs : List Stg}, aAz i p obs = true → ∀ {s : Stg} {x : MO}, obs[p]? = some s → tC (Sp i S) s.1 s.2 = x → iW (Sp i S) obs = (iW S obs).set p x
 | p, [], _, s, x, h, _ => by simp at h
 | 0, s0 :: r, ho, s, x, h, hx => by
  simp at h; subst h; subst hx
  simp only [iW, List.set_cons_zero]
  rw [aCc ho]
 | p + 1, s0 :: r, ho, s, x, h, hx => by
  simp only [aAz, Bool.and_eq_true, Bool.not_eq_true'] at ho
  simp only [iW, List.set_cons_succ, aDw ho.1]
  rw [aDt ho.2 (by simpa using h) hx]
theorem aHn {m : Nat} {S S' : Nat → Bool} (hS : ∀ j, j < m → S' j = S j) : ∀ {l : List (Nat × MO)} {x : MO}, (l.all fun x => Nat.blt x.1 m) = true → tC S' l x = tC S l x
 | [], _, _ => rfl
 | (j, y) :: l, x, h => by
  simp only [List.all_cons, Bool.and_eq_true] at h
  simp only [tC, hS j (aI h.1), aHn hS h.2]
theorem aFc {m : Nat} {S S' : Nat → Bool} (hS : ∀ j, j < m → S' j = S j) : ∀ {obs : List Stg}, wX m obs = true → iW S' obs = iW S obs
 | [], _ => rfl
 | s :: r, h => by
  simp only [wX, Bool.and_eq_true] at h
  simp only [iW, aHn hS h.1, aFc hS h.2]
def aOl (no : List Nat) : Tab → Tab → Prop
 | [], [] => True
 | x :: l, x' :: l' => x.1 = x'.1 ∧ x.2.1 = x'.2.1 ∧ (iK x.2.1 no = true ∨ x.2.2 = x'.2.2) ∧ aOl no l l'
 | _, _ => False
def aKm (no : List Nat) : List (Nat × MO) → List (Nat × MO) → Prop
 | [], [] => True
 | x :: l, x' :: l' => x.1 = x'.1 ∧ (iK x.1 no = true ∨ x.2 = x'.2) ∧ aKm no l l'
 | _, _ => False
def aKl (no : List Nat) : List Stg → List Stg → Prop
 | [], [] => True
 | s :: r, s' :: r' => aKm no s.1 s'.1 ∧ s.2 = s'.2 ∧ aKl no r r'
 | _, _ => False
theorem aGx {no : List Nat} {S : Nat → Bool} {base : Nat → AV} (hS : ∀ j, iK j no = true → S j = false) : ∀ {t t' : Tab}, aOl no t t' → ∀ k, ov t S base k = ov t' S base k
 | [], [], _, k => rfl
 | (d, j, v) :: l, (d', j', v') :: l', h, k => by
  obtain ⟨h1, h2, h3, h4⟩ := h
  simp only at h1 h2 h3
  subst h1; subst h2
  have ih := aGx (base := base) hS h4 k
  unfold ov at ih ⊢
  simp only [find]
  cases hk : Nat.beq d k with
  | false => simpa using ih
  | true =>
   simp only [cond_true]
   rcases h3 with h3 | h3
   ·rw [hS j h3]; rfl
   ·rw [h3]
theorem aHm {no : List Nat} {S : Nat → Bool} (hS : ∀ j, iK j no = true → S j = false) : ∀ {l l' : List (Nat × MO)} {m : MO}, aKm no l l' → tC S l m = tC S l' m
 | [], [], _, _ => rfl
 | (j, x) :: l, (j', x') :: l', m, h => by
  obtain ⟨h1, h2, h3⟩ := h
  simp only at h1 h2
  subst h1
  simp only [tC, aHm hS h3]
  rcases h2 with h2 | h2
  ·rw [hS j h2]; rfl
  ·rw [h2]
theorem aFb {no : List Nat} {S : Nat → Bool} (hS : ∀ j, iK j no = true → S j = false) : ∀ {o o' : List Stg}, aKl no o o' → iW S o = iW S o'
 | [], [], _ => rfl
 | s :: r, s' :: r', h => by
  simp only [iW, aHm hS h.1, h.2.1, aFb hS h.2.2]
def aEm (i : Nat) : Tab → Bool
 | [] => true
 | x :: l => !(Nat.beq x.2.1 i) && aEm i l
theorem aGy {i : Nat} : ∀ {t : Tab}, aEm i t = true → ∀ {k j : Nat} {v : AV}, find t k = some (j, v) → Nat.beq j i = false
 | [], _, k, j, v, h => by simp [find] at h
 | (d0, j0, v0) :: l, hn, k, j, v, h => by
  simp only [aEm, Bool.and_eq_true, Bool.not_eq_true'] at hn
  simp only [find] at h
  cases hb : Nat.beq d0 k with
  | true => rw [hb] at h; simp at h; rw [← h.1]; exact hn.1
  | false => rw [hb] at h; exact aGy hn.2 (by simpa using h)
theorem aSj {i : Nat} {t : Tab} {S : Nat → Bool} {base : Nat → AV} (hn : aEm i t = true) (k : Nat) : ov t (Sp i S) base k = ov t S base k := by
 unfold ov
 cases hf : find t k with
 | none => rfl
 | some p =>
  obtain ⟨j, v⟩ := p
  simp only [aPs (aGy hn hf)]
theorem Knows.sp {S : Nat → Bool} {yes no : List Nat} {i : Nat} (h : Knows S yes no) (hn : iK i no = false) : Knows (Sp i S) (i :: yes) no := by
 refine ⟨fun j hj => ?_, fun j hj => ?_⟩
 ·simp only [iK] at hj
  cases hb : Nat.beq i j with
  | true => have := Nat.eq_of_beq_eq_true hb; subst this; simp [Sp]
  | false => rw [hb] at hj; simp only [cond_false] at hj; simp [Sp, h.y j hj]
 ·have : Nat.beq j i = false := by
   cases hb : Nat.beq j i with
   | false => rfl
   | true => have := Nat.eq_of_beq_eq_true hb; subst this; rw [hn] at hj; cases hj
  rw [aPs this]; exact h.n j hj
theorem Knows.tl {S : Nat → Bool} {yes no : List Nat} {i : Nat} (h : Knows S yes (i :: no)) : Knows S yes no := ⟨h.y, fun j hj => h.n j (by simp only [iK]; cases Nat.beq i j <;> simp [hj])⟩
theorem Knows.cons {S : Nat → Bool} {yes no : List Nat} {i : Nat} (h : Knows S yes no) (hi : S i = false) : ∀ j, iK j (i :: no) = true → S j = false := by
 intro j hj
 simp only [iK] at hj
 cases hb : Nat.beq i j with
 | true => have := Nat.eq_of_beq_eq_true hb; subst this; exact hi
 | false => rw [hb] at hj; exact h.n j (by simpa using hj)
def aBj (P : Program) (n : Nat) (ops : Array Oper) (o : Oper) (tab : Mk → Tab) (base : Nat → AV) (obs : Mk → List Stg) (i : Nat) (X : Mk) (S : Nat → Bool) : Prop :=
 GStepP P n ops o ⟨ov (tab X) S base, iW S (obs X)⟩ (fun s => ∃ X', Ent s ⟨ov (tab X') (Sp i S) base, iW (Sp i S) (obs X')⟩)
def XSteps (P : Program) (n : Nat) (ops : Array Oper) (tab : Mk → Tab) (base : Nat → AV) (obs : Mk → List Stg) : List Oper → List (List Nat × List Nat) → Nat → Prop
 | [], _, _ => True
 | o :: l, yn, i => (∀ (X : Mk) (S : Nat → Bool), (∀ X, nB (tab X) = true) → S i = false → Knows S (yn.headD ([], [])).1 (i :: (yn.headD ([], [])).2) →
   aBj P n ops o tab base obs i X S) ∧ XSteps P n ops tab base obs l yn.tail (i + 1)
theorem XSteps.get {P : Program} {n : Nat} {ops : Array Oper} {tab : Mk → Tab} {base : Nat → AV} {obs : Mk → List Stg} : ∀ {l : List Oper} {yn : List (List Nat × List Nat)} {k : Nat}, XSteps P n ops tab base obs l yn k → ∀ {i : Nat} {o : Oper}, l[i]? = some o →
  ∀ (X : Mk) (S : Nat → Bool), (∀ X, nB (tab X) = true) → S (k + i) = false → Knows S (yn.getD i ([], [])).1 ((k + i) :: (yn.getD i ([], [])).2) →
   aBj P n ops o tab base obs (k + i) X S
 | [], _, _, _, i, o, h => by simp at h
 | _ :: _, yn, k, h, 0, o, ho => by
  simp at ho; subst ho
  have := h.1
  cases yn <;> simpa using this
 | _ :: l, yn, k, h, i + 1, o, ho => by
  have := h.2.get (i := i) (by simpa using ho)
  rw [show k + 1 + i = k + (i + 1) by omega] at this
  cases yn <;> simpa using this
section
variable {P : Program} {n : Nat} {st : St} {Q : Exit → St → Prop} {ops : Array Oper} {o : Oper}
theorem GStep.toP' {st1 st2 : St} (h : GStep P n ops o st1 st2) {Post : St → Prop} (hp : Post st2) : GStepP P n ops o st1 Post := by
 rcases h with ⟨hw, h⟩ | ⟨hw, d, ho, hd, rfl⟩
 ·exact .inl ⟨hw, fun A M w0 a w hR K Q hK => h A M w0 a w hR K Q fun s a' w' e hR' => hK s a' w' (e ▸ hp) hR'⟩
 ·exact .inr ⟨hw, d, ho, hd, hp⟩
def nob : MO := .box 0 0 []
theorem aTw {env : Nat → AV} {objs : List MO} : Ent ⟨env, objs⟩ ⟨env, objs ++ [nob]⟩ := by
 intro A M w0 n a w hR
 refine hR.change (Keeps.refl (fun _ _ => False) w) (fun _ _ h => h.elim) (fun b o _ hx => ?_) ?_ fun hm m hmm => ?_
 ·rcases oL.1 hx with h | ⟨m, hm, hf⟩
  ·exact h
  ·simp at hm; subst hm; obtain ⟨_, h1, h2⟩ := hf; simp at h2
 ·refine List.pairwise_append.2 ⟨hR.inv.sep, by simp, fun x hx y hy b o h1 h2 => ?_⟩
  simp at hy; subst hy; obtain ⟨_, h3, h4⟩ := h2; simp at h4
 ·rcases List.mem_append.1 hmm with h | h
  ·exact eD (hR.inv.holds m h) (Keeps.refl (fun _ _ => False) w) (fun _ _ _ h => h) hm
  ·simp at h; subst h
   exact ⟨[], trivial, fun j v h => by simp at h, fun j h => by simp at h⟩
theorem aKw {env : Nat → AV} {objs : List MO} : ∀ q, Ent ⟨env, objs⟩ ⟨env, objs ++ List.replicate q nob⟩
 | 0 => by simpa using Ent.refl _
 | q + 1 => by
  have := (aKw (env := env) (objs := objs) q).trans aTw
  rwa [List.append_assoc, ← List.replicate_succ'] at this
theorem aWg {tab : Mk → Tab} {base : Nat → AV} {obs : Mk → List Stg} {X : Mk} {S : Nat → Bool} {i d : Nat} {v : AV} (hf : find (tab X) d = some (i, v)) (hown : nB (tab X) = true) (hfree : aAv i (obs X) = true)
  (h : GStep P n ops o ⟨ov (tab X) S base, iW S (obs X)⟩ ⟨upd (ov (tab X) S base) d v, iW S (obs X)⟩) :
  aBj P n ops o tab base obs i X S := by
 refine h.toP' ⟨X, ?_⟩
 have : ov (tab X) (Sp i S) base = upd (ov (tab X) S base) d v := funext fun k => aIs hown hf k
 rw [this, aCc hfree]
 exact Ent.refl _
theorem aUz {tab : Mk → Tab} {base : Nat → AV} {obs : Mk → List Stg} {X : Mk} {S : Nat → Bool} {yes no : List Nat} {i p : Nat} {s0 : Stg} {mo : MO} (hS : Knows S yes (i :: no)) (hno : iK i no = false) (hn : aEm i (tab X) = true) (ho : aAz i p (obs X) = true)
  (hp : (obs X)[p]? = some s0) (hm : aDv (i :: yes) no s0.1 s0.2 = some mo)
  (h : GStep P n ops o ⟨ov (tab X) S base, iW S (obs X)⟩ ⟨ov (tab X) S base, (iW S (obs X)).set p mo⟩) :
  aBj P n ops o tab base obs i X S := by
 refine h.toP' ⟨X, ?_⟩
 have : ov (tab X) (Sp i S) base = ov (tab X) S base := funext fun k => aSj hn k
 rw [this, aDt ho hp (aEn (hS.tl.sp hno) hm)]
 exact Ent.refl _
theorem qV {tab : Mk → Tab} {base : Nat → AV} {obs : Mk → List Stg} {X : Mk} {S : Nat → Bool} {yes no : List Nat} {i d p : Nat} {v : XV → AV} {s0 : XV → Stg} {mo : XV → MO} (hS : Knows S yes (i :: no)) (hi : S i = false) (hg : o.guard = none) (hno : iK i no = false)
  (hf : ∀ x, find (tab (aEd X i x)) d = some (i, v x)) (hown : ∀ X, nB (tab X) = true) (ho : ∀ X, aAz i p (obs X) = true) (hp : ∀ x, (obs (aEd X i x))[p]? = some (s0 x)) (hm : ∀ x, aDv (i :: yes) no (s0 x).1 (s0 x).2 = some (mo x))
  (hat : ∀ x, aOl (i :: no) (tab (aEd X i x)) (tab X)) (hao : ∀ x, aKl (i :: no) (obs (aEd X i x)) (obs X))
  (h : Step P n o ⟨ov (tab X) S base, iW S (obs X)⟩ (fun s => ∃ x, Ent s ⟨upd (ov (tab X) S base) d (v x), (iW S (obs X)).set p (mo x)⟩)) :
  aBj P n ops o tab base obs i X S := by
 refine .inl ⟨fun _ _ _ _ _ _ => by simp [Region.wanted, hg], fun A M w0 a w hR K Q hK => h A M w0 a w hR K Q ?_⟩
 rintro s a' w' ⟨x, he⟩ hR'
 refine hK s a' w' ⟨aEd X i x, ?_⟩ hR'
 have h1 : ov (tab (aEd X i x)) (Sp i S) base = upd (ov (tab X) S base) d (v x) := by
  funext k
  rw [show ov (tab (aEd X i x)) (Sp i S) base k = _ from aIs (hown _) (hf x) k]
  have : ov (tab (aEd X i x)) S base = ov (tab X) S base := funext fun k => aGx (hS.n) (hat x) k
  rw [this]
 rw [h1, aDt (ho _) (hp x) (aEn (hS.tl.sp hno) (hm x)), aFb (hS.n) (hao x)]
 exact he
def XOK (P : Program) (n : Nat) (l : List Oper) (m q : Nat) (tab : Mk → Tab) (obs : Mk → List Stg) (st : St) : Prop :=
 xL l = true ∧ tF (mC l l.length) m l.length = true ∧ Nat.ble m l.length = true ∧ (∀ X, nB (tab X) = true) ∧ (∀ X, ((tab X).all fun x => Nat.blt x.2.1 m) = true) ∧ (∀ X, wX m (obs X) = true) ∧
  (∀ X, iW (fun _ => false) (obs X) = st.objs ++ List.replicate q nob) ∧
  ∃ yn, aGn (mC l l.length) m yn = true ∧ XSteps P n l.toArray tab st.env obs (l.take m) yn 0
theorem aSw {id : Nat} {l : List Oper} (hm : P.follows .mixedOrders = true) (m q : Nat) (tab : Mk → Tab) (obs : Mk → List Stg) (ks : List Nat) (us : Mk → List (Nat × AV)) (objs : Mk → List MO) (h : XOK P n l m q tab obs st)
  (he : ∀ X, Ent ⟨ov (tab X) (fun _ => true) st.env, iW (fun _ => true) (obs X)⟩ ⟨vK (keep ks st.env) (us X), objs X⟩)
  (htail : ∀ X, TrL P n l.toArray (l.drop m) ⟨vK (keep ks st.env) (us X), objs X⟩ Q) : Tr P n (.region id l.toArray true) st Q := by
 obtain ⟨h1, h2, h3, hw, h4, h5, h6, yn, h7, h8⟩ := h
 refine bL (aKw q) ?_
 have h0 : (⟨st.env, st.objs ++ List.replicate q nob⟩ : St) = ⟨ov (tab fun _ => ⟨0, undef⟩) (fun _ => false) st.env, iW (fun _ => false) (obs fun _ => ⟨0, undef⟩)⟩ := by
  rw [h6]
  congr 1
  funext k
  unfold ov
  cases find (tab fun _ => ⟨0, undef⟩) k <;> rfl
 refine aMp m (fun S st' => ∃ X, st' = ⟨ov (tab X) S st.env, iW S (obs X)⟩) hm h1 h2 h3 yn h7 ⟨_, h0⟩ ?_ ?_ ?_
 ·rintro S S' st' hS ⟨X, rfl⟩
  refine ⟨X, ?_⟩
  rw [aFc hS (h5 X)]
  congr 1
  funext k
  unfold ov
  cases hf : find (tab X) k with
  | none => rfl
  | some p =>
   obtain ⟨j, v⟩ := p
   have hjm : j < m := aI (List.all_eq_true.1 (h4 X) _ (yO hf))
   simp [hS j hjm]
 ·rintro i o hoi S st' ⟨X, rfl⟩ hi hk
  have := h8.get hoi X S hw (by rw [Nat.zero_add]; exact hi) ⟨hk.y, by rw [Nat.zero_add]; exact hk.cons hi⟩
  rw [Nat.zero_add] at this
  rcases this with ⟨hw', h⟩ | ⟨hw', d, ho, hd, X', he'⟩
  ·exact .inl ⟨hw', fun A M w0 a w hR K Q hK => h A M w0 a w hR K Q fun s a' w' ⟨X', he'⟩ hR' => hK s a' w' ⟨_, ⟨X', rfl⟩, he'⟩ hR'⟩
  ·exact .inr ⟨hw', d, ho, hd, _, ⟨X', rfl⟩, he'⟩
 ·rintro st' ⟨X, rfl⟩
  exact dR (he X) (htail X)
theorem jP {id : Nat} {l : List Oper} (hm : P.follows .mixedOrders = true) (m : Nat) (ks : List Nat) (us : Mk → List (Nat × AV)) (objs : Mk → List MO)
  (h : ∃ q tab obs, XOK P n l m q tab obs st ∧ ∀ X, Ent ⟨ov (tab X) (fun _ => true) st.env, iW (fun _ => true) (obs X)⟩ ⟨vK (keep ks st.env) (us X), objs X⟩)
  (htail : ∀ X, TrL P n l.toArray (l.drop m) ⟨vK (keep ks st.env) (us X), objs X⟩ Q) : Tr P n (.region id l.toArray true) st Q := by
 obtain ⟨q, tab, obs, h, he⟩ := h
 exact aSw hm m q tab obs ks us objs h he htail
theorem le_refl (e : Nat → AV) : Le e e := fun _ => .inr rfl
theorem aSs {st1 : St} {Post : St → Prop} (he : Ent st st1) (h : Step P n o st1 Post) : Step P n o st Post := fun A M w0 a w hR K Q hK => h A M w0 a w (he A M w0 n a w hR) K Q hK
theorem lQ {Post Post' : St → Prop} (h : Step P n o st Post) (hp : ∀ s, Post s → Post' s) : Step P n o st Post' := fun A M w0 a w hR K Q hK => h A M w0 a w hR K Q fun s a' w' hs hR' => hK s a' w' (hp s hs) hR'
end
end Go.Am
