/- The program logic 'Am': a region whose order is open, in which objects are made and changed. -/
import Derived.Test.YtiohgpipanopaaaGreatAmDraw
namespace Go.Am
structure XV where
 b : Nat
 v : Value
abbrev Mk := Nat → XV
def aLr (X : Mk) (i : Nat) (x : XV) : Mk := fun k => bif Nat.beq k i then x else X k
def Sp (i : Nat) (S : Nat → Bool) : Nat → Bool := fun j => Nat.beq j i || S j
abbrev Stg := List (Nat × MO) × MO
def vZ (S : Nat → Bool) : List (Nat × MO) → MO → MO
 | [], m => m
 | (i, x) :: l, m => bif S i then x else vZ S l m
def gW (S : Nat → Bool) : List Stg → List MO
 | [] => []
 | s :: r => vZ S s.1 s.2 :: gW S r
def aIw (yes no : List Nat) : List (Nat × MO) → MO → Option MO
 | [], m => some m
 | (i, x) :: l, m => bif gR i yes then some x else bif gR i no then aIw yes no l m else none
def aKv (i : Nat) : List (Nat × MO) → Bool
 | [] => false
 | (j, _) :: l => Nat.beq j i || aKv i l
def aHa (i : Nat) : List Stg → Bool
 | [] => true
 | s :: r => !(aKv i s.1) && aHa i r
def aEs (i : Nat) : Nat → List Stg → Bool
 | _, [] => true
 | 0, _ :: r => aHa i r
 | p + 1, s :: r => !(aKv i s.1) && aEs i p r
def aCe (m : Nat) : List Stg → Bool
 | [] => true
 | s :: r => s.1.all (fun x => Nat.blt x.1 m) && aCe m r
theorem aHg {S : Nat → Bool} {yes no : List Nat} (hS : Knows S yes no) : ∀ {l : List (Nat × MO)} {m x : MO}, aIw yes no l m = some x → vZ S l m = x
 | [], m, x, h => by simpa [aIw, vZ] using h
 | (i, y) :: l, m, x, h => by
  simp only [aIw] at h
  simp only [vZ]
  cases hy : gR i yes with
  | true => rw [hy] at h; simp at h; simp [hS.y i hy, h]
  | false =>
   cases hn : gR i no with
   | true => rw [hy, hn] at h; simp at h; simp [hS.n i hn, aHg hS h]
   | false => rw [hy, hn] at h; simp at h
theorem og {S : Nat → Bool} {yes no : List Nat} {objs : List MO} {i : Nat} {l : List (Nat × MO)} {m x : MO} (hS : Knows S yes no) (h : objs[i]? = some (vZ S l m)) (h2 : aIw yes no l m = some x) : objs[i]? = some x := by
 rw [h, aHg hS h2]
theorem aZv {i j : Nat} {S : Nat → Bool} (h : Nat.beq j i = false) : Sp i S j = S j := by simp [Sp, h]
theorem aLj {i : Nat} {S : Nat → Bool} : ∀ {l : List (Nat × MO)} {m : MO}, aKv i l = false → vZ (Sp i S) l m = vZ S l m
 | [], _, _ => rfl
 | (j, x) :: l, m, h => by
  simp only [aKv, Bool.or_eq_false_iff] at h
  simp only [vZ, aZv h.1, aLj h.2]
theorem aIt {i : Nat} {S : Nat → Bool} : ∀ {obs : List Stg}, aHa i obs = true → gW (Sp i S) obs = gW S obs
 | [], _ => rfl
 | s :: r, h => by
  simp only [aHa, Bool.and_eq_true, Bool.not_eq_true'] at h
  simp only [gW, aLj h.1, aIt h.2]
theorem aFv {i : Nat} {S : Nat → Bool} : ∀ {p : Nat} {obs : List Stg}, aEs i p obs = true → ∀ {s : Stg} {x : MO}, obs[p]? = some s → vZ (Sp i S) s.1 s.2 = x → gW (Sp i S) obs = (gW S obs).set p x
 | p, [], _, s, x, h, _ => by simp at h
 | 0, s0 :: r, ho, s, x, h, hx => by
  simp at h; subst h; subst hx
  simp only [gW, List.set_cons_zero]
  rw [aIt ho]
 | p + 1, s0 :: r, ho, s, x, h, hx => by
  simp only [aEs, Bool.and_eq_true, Bool.not_eq_true'] at ho
  simp only [gW, List.set_cons_succ, aLj ho.1]
  rw [aFv ho.2 (by simpa using h) hx]
theorem aQc {m : Nat} {S S' : Nat → Bool} (hS : ∀ j, j < m → S' j = S j) : ∀ {l : List (Nat × MO)} {x : MO}, (l.all fun x => Nat.blt x.1 m) = true → vZ S' l x = vZ S l x
 | [], _, _ => rfl
 | (j, y) :: l, x, h => by
  simp only [List.all_cons, Bool.and_eq_true] at h
  simp only [vZ, hS j (aE h.1), aQc hS h.2]
theorem aNh {m : Nat} {S S' : Nat → Bool} (hS : ∀ j, j < m → S' j = S j) : ∀ {obs : List Stg}, aCe m obs = true → gW S' obs = gW S obs
 | [], _ => rfl
 | s :: r, h => by
  simp only [aCe, Bool.and_eq_true] at h
  simp only [gW, aQc hS h.1, aNh hS h.2]
def aYh (no : List Nat) : Tab → Tab → Prop
 | [], [] => True
 | x :: l, x' :: l' => x.1 = x'.1 ∧ x.2.1 = x'.2.1 ∧ (gR x.2.1 no = true ∨ x.2.2 = x'.2.2) ∧ aYh no l l'
 | _, _ => False
def aTq (no : List Nat) : List (Nat × MO) → List (Nat × MO) → Prop
 | [], [] => True
 | x :: l, x' :: l' => x.1 = x'.1 ∧ (gR x.1 no = true ∨ x.2 = x'.2) ∧ aTq no l l'
 | _, _ => False
def aTp (no : List Nat) : List Stg → List Stg → Prop
 | [], [] => True
 | s :: r, s' :: r' => aTq no s.1 s'.1 ∧ s.2 = s'.2 ∧ aTp no r r'
 | _, _ => False
theorem aPl {no : List Nat} {S : Nat → Bool} {base : Nat → AV} (hS : ∀ j, gR j no = true → S j = false) : ∀ {t t' : Tab}, aYh no t t' → ∀ k, ov t S base k = ov t' S base k
 | [], [], _, k => rfl
 | (d, j, v) :: l, (d', j', v') :: l', h, k => by
  obtain ⟨h1, h2, h3, h4⟩ := h
  simp only at h1 h2 h3
  subst h1; subst h2
  have ih := aPl (base := base) hS h4 k
  unfold ov at ih ⊢
  simp only [find]
  cases hk : Nat.beq d k with
  | false => simpa using ih
  | true =>
   simp only [cond_true]
   rcases h3 with h3 | h3
   ·rw [hS j h3]; rfl
   ·rw [h3]
theorem aQb {no : List Nat} {S : Nat → Bool} (hS : ∀ j, gR j no = true → S j = false) : ∀ {l l' : List (Nat × MO)} {m : MO}, aTq no l l' → vZ S l m = vZ S l' m
 | [], [], _, _ => rfl
 | (j, x) :: l, (j', x') :: l', m, h => by
  obtain ⟨h1, h2, h3⟩ := h
  simp only at h1 h2
  subst h1
  simp only [vZ, aQb hS h3]
  rcases h2 with h2 | h2
  ·rw [hS j h2]; rfl
  ·rw [h2]
theorem aNg {no : List Nat} {S : Nat → Bool} (hS : ∀ j, gR j no = true → S j = false) : ∀ {o o' : List Stg}, aTp no o o' → gW S o = gW S o'
 | [], [], _ => rfl
 | s :: r, s' :: r', h => by
  simp only [gW, aQb hS h.1, h.2.1, aNg hS h.2.2]
def aMg (i : Nat) : Tab → Bool
 | [] => true
 | x :: l => !(Nat.beq x.2.1 i) && aMg i l
theorem aPn {i : Nat} : ∀ {t : Tab}, aMg i t = true → ∀ {k j : Nat} {v : AV}, find t k = some (j, v) → Nat.beq j i = false
 | [], _, k, j, v, h => by simp [find] at h
 | (d0, j0, v0) :: l, hn, k, j, v, h => by
  simp only [aMg, Bool.and_eq_true, Bool.not_eq_true'] at hn
  simp only [find] at h
  cases hb : Nat.beq d0 k with
  | true => rw [hb] at h; simp at h; rw [← h.1]; exact hn.1
  | false => rw [hb] at h; exact aPn hn.2 (by simpa using h)
theorem bDq {i : Nat} {t : Tab} {S : Nat → Bool} {base : Nat → AV} (hn : aMg i t = true) (k : Nat) : ov t (Sp i S) base k = ov t S base k := by
 unfold ov
 cases hf : find t k with
 | none => rfl
 | some p =>
  obtain ⟨j, v⟩ := p
  simp only [aZv (aPn hn hf)]
theorem Knows.sp {S : Nat → Bool} {yes no : List Nat} {i : Nat} (h : Knows S yes no) (hn : gR i no = false) : Knows (Sp i S) (i :: yes) no := by
 refine ⟨fun j hj => ?_, fun j hj => ?_⟩
 ·simp only [gR] at hj
  cases hb : Nat.beq i j with
  | true => have := Nat.eq_of_beq_eq_true hb; subst this; simp [Sp]
  | false => rw [hb] at hj; simp only [cond_false] at hj; simp [Sp, h.y j hj]
 ·have : Nat.beq j i = false := by
   cases hb : Nat.beq j i with
   | false => rfl
   | true => have := Nat.eq_of_beq_eq_true hb; subst this; rw [hn] at hj; cases hj
  rw [aZv this]; exact h.n j hj
theorem Knows.tl {S : Nat → Bool} {yes no : List Nat} {i : Nat} (h : Knows S yes (i :: no)) : Knows S yes no := ⟨h.y, fun j hj => h.n j (by simp only [gR]; cases Nat.beq i j <;> simp [hj])⟩
theorem Knows.cons {S : Nat → Bool} {yes no : List Nat} {i : Nat} (h : Knows S yes no) (hi : S i = false) : ∀ j, gR j (i :: no) = true → S j = false := by
 intro j hj
 simp only [gR] at hj
 cases hb : Nat.beq i j with
 | true => have := Nat.eq_of_beq_eq_true hb; subst this; exact hi
 | false => rw [hb] at hj; exact h.n j (by simpa using hj)
def aFl (P : Program) (n : Nat) (ops : Array Oper) (o : Oper) (tab : Mk → Tab) (base : Nat → AV) (obs : Mk → List Stg) (i : Nat) (X : Mk) (S : Nat → Bool) : Prop :=
 GStepP P n ops o ⟨ov (tab X) S base, gW S (obs X)⟩ (fun s => ∃ X', Ent s ⟨ov (tab X') (Sp i S) base, gW (Sp i S) (obs X')⟩)
def XSteps (P : Program) (n : Nat) (ops : Array Oper) (tab : Mk → Tab) (base : Nat → AV) (obs : Mk → List Stg) : List Oper → List (List Nat × List Nat) → Nat → Prop
 | [], _, _ => True
 | o :: l, yn, i => (∀ (X : Mk) (S : Nat → Bool), (∀ X, mS (tab X) = true) → S i = false → Knows S (yn.headD ([], [])).1 (i :: (yn.headD ([], [])).2) →
   aFl P n ops o tab base obs i X S) ∧ XSteps P n ops tab base obs l yn.tail (i + 1)
theorem XSteps.get {P : Program} {n : Nat} {ops : Array Oper} {tab : Mk → Tab} {base : Nat → AV} {obs : Mk → List Stg} : ∀ {l : List Oper} {yn : List (List Nat × List Nat)} {k : Nat}, XSteps P n ops tab base obs l yn k → ∀ {i : Nat} {o : Oper}, l[i]? = some o →
  ∀ (X : Mk) (S : Nat → Bool), (∀ X, mS (tab X) = true) → S (k + i) = false → Knows S (yn.getD i ([], [])).1 ((k + i) :: (yn.getD i ([], [])).2) →
   aFl P n ops o tab base obs (k + i) X S
 | [], _, _, _, i, o, h => by simp at h
 | _ :: _, yn, k, h, 0, o, ho => by
  simp at ho; subst ho
  have := h.1
  cases yn <;> simpa using this
 | _ :: l, yn, k, h, i + 1, o, ho => by
  have := h.2.get (i := i) (by simpa using ho)
  rw [show k + 1 + i = k + (i + 1) by omega] at this
  cases yn <;> simpa using this
section
variable {P : Program} {n : Nat} {st : St} {Q : Exit → St → Prop} {ops : Array Oper} {o : Oper}
theorem GStep.toP' {st1 st2 : St} (h : GStep P n ops o st1 st2) {Post : St → Prop} (hp : Post st2) : GStepP P n ops o st1 Post := by
 rcases h with ⟨hw, h⟩ | ⟨hw, d, ho, hd, rfl⟩
 ·exact .inl ⟨hw, fun A M w0 a w hR K Q hK => h A M w0 a w hR K Q fun s a' w' e hR' => hK s a' w' (e ▸ hp) hR'⟩
 ·exact .inr ⟨hw, d, ho, hd, hp⟩
def nob : MO := .box 0 0 []
theorem bEy {env : Nat → AV} {objs : List MO} : Ent ⟨env, objs⟩ ⟨env, objs ++ [nob]⟩ := by
 intro A M w0 n a w hR
 refine hR.change (Keeps.refl (fun _ _ => False) w) (fun _ _ h => h.elim) (fun b o _ hx => ?_) ?_ fun hm m hmm => ?_
 ·rcases qV.1 hx with h | ⟨m, hm, hf⟩
  ·exact h
  ·simp at hm; subst hm; obtain ⟨_, h1, h2⟩ := hf; simp at h2
 ·refine List.pairwise_append.2 ⟨hR.inv.sep, by simp, fun x hx y hy b o h1 h2 => ?_⟩
  simp at hy; subst hy; obtain ⟨_, h3, h4⟩ := h2; simp at h4
 ·rcases List.mem_append.1 hmm with h | h
  ·exact cU (hR.inv.holds m h) (Keeps.refl (fun _ _ => False) w) (fun _ _ _ h => h) hm
  ·simp at h; subst h
   exact ⟨[], trivial, fun j v h => by simp at h, fun j h => by simp at h⟩
theorem aUf {env : Nat → AV} {objs : List MO} : ∀ q, Ent ⟨env, objs⟩ ⟨env, objs ++ List.replicate q nob⟩
 | 0 => by simpa using Ent.refl _
 | q + 1 => by
  have := (aUf (env := env) (objs := objs) q).trans bEy
  rwa [List.append_assoc, ← List.replicate_succ'] at this
theorem bHk {tab : Mk → Tab} {base : Nat → AV} {obs : Mk → List Stg} {X : Mk} {S : Nat → Bool} {i d : Nat} {v : AV} (hf : find (tab X) d = some (i, v)) (hown : mS (tab X) = true) (hfree : aHa i (obs X) = true)
  (h : GStep P n ops o ⟨ov (tab X) S base, gW S (obs X)⟩ ⟨upd (ov (tab X) S base) d v, gW S (obs X)⟩) :
  aFl P n ops o tab base obs i X S := by
 refine h.toP' ⟨X, ?_⟩
 have : ov (tab X) (Sp i S) base = upd (ov (tab X) S base) d v := funext fun k => aMj hown hf k
 rw [this, aIt hfree]
 exact Ent.refl _
theorem bGl {tab : Mk → Tab} {base : Nat → AV} {obs : Mk → List Stg} {X : Mk} {S : Nat → Bool} {yes no : List Nat} {i p : Nat} {s0 : Stg} {mo : MO} (hS : Knows S yes (i :: no)) (hno : gR i no = false) (hn : aMg i (tab X) = true) (ho : aEs i p (obs X) = true)
  (hp : (obs X)[p]? = some s0) (hm : aIw (i :: yes) no s0.1 s0.2 = some mo)
  (h : GStep P n ops o ⟨ov (tab X) S base, gW S (obs X)⟩ ⟨ov (tab X) S base, (gW S (obs X)).set p mo⟩) :
  aFl P n ops o tab base obs i X S := by
 refine h.toP' ⟨X, ?_⟩
 have : ov (tab X) (Sp i S) base = ov (tab X) S base := funext fun k => bDq hn k
 rw [this, aFv ho hp (aHg (hS.tl.sp hno) hm)]
 exact Ent.refl _
theorem bCo {tab : Mk → Tab} {base : Nat → AV} {obs : Mk → List Stg} {X : Mk} {S : Nat → Bool} {yes no : List Nat} {i d p : Nat} {v : AV} {s0 : Stg} {mo : MO} (hS : Knows S yes (i :: no)) (hg : o.guard = none) (hno : gR i no = false)
  (hf : find (tab X) d = some (i, v)) (hown : mS (tab X) = true) (ho : aEs i p (obs X) = true) (hp : (obs X)[p]? = some s0) (hm : aIw (i :: yes) no s0.1 s0.2 = some mo)
  (h : Step P n o ⟨ov (tab X) S base, gW S (obs X)⟩ (fun s => Ent s ⟨upd (ov (tab X) S base) d v, (gW S (obs X)).set p mo⟩)) :
  aFl P n ops o tab base obs i X S := by
 refine .inl ⟨fun _ _ _ _ _ _ => by simp [Region.wanted, hg], fun A M w0 a w hR K Q hK => h A M w0 a w hR K Q fun s a' w' he hR' => hK s a' w' ⟨X, ?_⟩ hR'⟩
 have : ov (tab X) (Sp i S) base = upd (ov (tab X) S base) d v := funext fun k => aMj hown hf k
 rw [this, aFv ho hp (aHg (hS.tl.sp hno) hm)]
 exact he
theorem uH {tab : Mk → Tab} {base : Nat → AV} {obs : Mk → List Stg} {X : Mk} {S : Nat → Bool} {yes no : List Nat} {i d p : Nat} {v : XV → AV} {s0 : XV → Stg} {mo : XV → MO} (hS : Knows S yes (i :: no)) (hi : S i = false) (hg : o.guard = none) (hno : gR i no = false)
  (hf : ∀ x, find (tab (aLr X i x)) d = some (i, v x)) (hown : ∀ X, mS (tab X) = true) (ho : ∀ X, aEs i p (obs X) = true) (hp : ∀ x, (obs (aLr X i x))[p]? = some (s0 x)) (hm : ∀ x, aIw (i :: yes) no (s0 x).1 (s0 x).2 = some (mo x))
  (hat : ∀ x, aYh (i :: no) (tab (aLr X i x)) (tab X)) (hao : ∀ x, aTp (i :: no) (obs (aLr X i x)) (obs X))
  (h : Step P n o ⟨ov (tab X) S base, gW S (obs X)⟩ (fun s => ∃ x, Ent s ⟨upd (ov (tab X) S base) d (v x), (gW S (obs X)).set p (mo x)⟩)) :
  aFl P n ops o tab base obs i X S := by
 refine .inl ⟨fun _ _ _ _ _ _ => by simp [Region.wanted, hg], fun A M w0 a w hR K Q hK => h A M w0 a w hR K Q ?_⟩
 rintro s a' w' ⟨x, he⟩ hR'
 refine hK s a' w' ⟨aLr X i x, ?_⟩ hR'
 have h1 : ov (tab (aLr X i x)) (Sp i S) base = upd (ov (tab X) S base) d (v x) := by
  funext k
  rw [show ov (tab (aLr X i x)) (Sp i S) base k = _ from aMj (hown _) (hf x) k]
  have : ov (tab (aLr X i x)) S base = ov (tab X) S base := funext fun k => aPl (hS.n) (hat x) k
  rw [this]
 rw [h1, aFv (ho _) (hp x) (aHg (hS.tl.sp hno) (hm x)), aNg (hS.n) (hao x)]
 exact he
def XOK (P : Program) (n : Nat) (l : List Oper) (m q : Nat) (tab : Mk → Tab) (obs : Mk → List Stg) (st : St) : Prop :=
 aCs l = true ∧ yA (mT l l.length) m l.length = true ∧ Nat.ble m l.length = true ∧ (∀ X, mS (tab X) = true) ∧ (∀ X, ((tab X).all fun x => Nat.blt x.2.1 m) = true) ∧ (∀ X, aCe m (obs X) = true) ∧
  (∀ X, gW (fun _ => false) (obs X) = st.objs ++ List.replicate q nob) ∧
  ∃ yn, aOo (mT l l.length) m yn = true ∧ XSteps P n l.toArray tab st.env obs (l.take m) yn 0
theorem bEg {id : Nat} {l : List Oper} (hm : P.follows .mixedOrders = true) (m q : Nat) (tab : Mk → Tab) (obs : Mk → List Stg) (ks : List Nat) (us : Mk → List (Nat × AV)) (objs : Mk → List MO) (h : XOK P n l m q tab obs st)
  (he : ∀ X, Ent ⟨ov (tab X) (fun _ => true) st.env, gW (fun _ => true) (obs X)⟩ ⟨xY (keep ks st.env) (us X), objs X⟩)
  (htail : ∀ X, TrL P n l.toArray (l.drop m) ⟨xY (keep ks st.env) (us X), objs X⟩ Q) : Tr P n (.region id l.toArray true) st Q := by
 obtain ⟨h1, h2, h3, hw, h4, h5, h6, yn, h7, h8⟩ := h
 refine bK (aUf q) ?_
 have h0 : (⟨st.env, st.objs ++ List.replicate q nob⟩ : St) = ⟨ov (tab fun _ => ⟨0, undef⟩) (fun _ => false) st.env, gW (fun _ => false) (obs fun _ => ⟨0, undef⟩)⟩ := by
  rw [h6]
  congr 1
  funext k
  unfold ov
  cases find (tab fun _ => ⟨0, undef⟩) k <;> rfl
 refine aVz m (fun S st' => ∃ X, st' = ⟨ov (tab X) S st.env, gW S (obs X)⟩) hm h1 h2 h3 yn h7 ⟨_, h0⟩ ?_ ?_ ?_
 ·rintro S S' st' hS ⟨X, rfl⟩
  refine ⟨X, ?_⟩
  rw [aNh hS (h5 X)]
  congr 1
  funext k
  unfold ov
  cases hf : find (tab X) k with
  | none => rfl
  | some p =>
   obtain ⟨j, v⟩ := p
   have hjm : j < m := aE (List.all_eq_true.1 (h4 X) _ (aEh hf))
   simp [hS j hjm]
 ·rintro i o hoi S st' ⟨X, rfl⟩ hi hk
  have := h8.get hoi X S hw (by rw [Nat.zero_add]; exact hi) ⟨hk.y, by rw [Nat.zero_add]; exact hk.cons hi⟩
  rw [Nat.zero_add] at this
  rcases this with ⟨hw', h⟩ | ⟨hw', d, ho, hd, X', he'⟩
  ·exact .inl ⟨hw', fun A M w0 a w hR K Q hK => h A M w0 a w hR K Q fun s a' w' ⟨X', he'⟩ hR' => hK s a' w' ⟨_, ⟨X', rfl⟩, he'⟩ hR'⟩
  ·exact .inr ⟨hw', d, ho, hd, _, ⟨X', rfl⟩, he'⟩
 ·rintro st' ⟨X, rfl⟩
  exact gY (he X) (htail X)
theorem iE {id : Nat} {l : List Oper} (hm : P.follows .mixedOrders = true) (m : Nat) (ks : List Nat) (us : Mk → List (Nat × AV)) (objs : Mk → List MO)
  (h : ∃ q tab obs, XOK P n l m q tab obs st ∧ ∀ X, Ent ⟨ov (tab X) (fun _ => true) st.env, gW (fun _ => true) (obs X)⟩ ⟨xY (keep ks st.env) (us X), objs X⟩)
  (htail : ∀ X, TrL P n l.toArray (l.drop m) ⟨xY (keep ks st.env) (us X), objs X⟩ Q) : Tr P n (.region id l.toArray true) st Q := by
 obtain ⟨q, tab, obs, h, he⟩ := h
 exact bEg hm m q tab obs ks us objs h he htail
theorem le_refl (e : Nat → AV) : Le e e := fun _ => .inr rfl
theorem kQ {Post Post' : St → Prop} (h : Step P n o st Post) (hp : ∀ s, Post s → Post' s) : Step P n o st Post' := fun A M w0 a w hR K Q hK => h A M w0 a w hR K Q fun s a' w' hs hR' => hK s a' w' (hp s hs) hR'
end
end Go.Am
