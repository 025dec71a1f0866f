/- The program logic 'Am': a region whose order is open, in which objects are made and changed. -/
import Derived.Test.YtfdappeickbpeaaGreatAmDraw
namespace Go.Am
structure XV where
 b : Nat
 v : Value
abbrev Mk := Nat → XV
def aBh (X : Mk) (i : Nat) (x : XV) : Mk := fun k => bif Nat.beq k i then x else X k
def Sp (i : Nat) (S : Nat → Bool) : Nat → Bool := fun j => Nat.beq j i || S j
abbrev Stg := List (Nat × MO) × MO
def qP (S : Nat → Bool) : List (Nat × MO) → MO → MO
 | [], m => m
 | (i, x) :: l, m => bif S i then x else qP S l m
def gP (S : Nat → Bool) : List Stg → List MO
 | [] => []
 | s :: r => qP S s.1 s.2 :: gP S r
def zL (yes no : List Nat) : List (Nat × MO) → MO → Option MO
 | [], m => some m
 | (i, x) :: l, m => bif gM i yes then some x else bif gM i no then zL yes no l m else none
def aAw (i : Nat) : List (Nat × MO) → Bool
 | [] => false
 | (j, _) :: l => Nat.beq j i || aAw i l
def yM (i : Nat) : List Stg → Bool
 | [] => true
 | s :: r => !(aAw i s.1) && yM i r
def xC (i : Nat) : Nat → List Stg → Bool
 | _, [] => true
 | 0, _ :: r => yM i r
 | p + 1, s :: r => !(aAw i s.1) && xC i p r
def vG (m : Nat) : List Stg → Bool
 | [] => true
 | s :: r => s.1.all (fun x => Nat.blt x.1 m) && vG m r
theorem yP {S : Nat → Bool} {yes no : List Nat} (hS : Knows S yes no) : ∀ {l : List (Nat × MO)} {m x : MO}, zL yes no l m = some x → qP S l m = x
 | [], m, x, h => by simpa [zL, qP] using h
 | (i, y) :: l, m, x, h => by
  simp only [zL] at h
  simp only [qP]
  cases hy : gM i yes with
  | true => rw [hy] at h; simp at h; simp [hS.y i hy, h]
  | false =>
   cases hn : gM i no with
   | true => rw [hy, hn] at h; simp at h; simp [hS.n i hn, yP hS h]
   | false => rw [hy, hn] at h; simp at h
theorem og {S : Nat → Bool} {yes no : List Nat} {objs : List MO} {i : Nat} {l : List (Nat × MO)} {m x : MO} (hS : Knows S yes no) (h : objs[i]? = some (qP S l m)) (h2 : zL yes no l m = some x) : objs[i]? = some x := by
 rw [h, yP hS h2]
theorem aLp {i j : Nat} {S : Nat → Bool} (h : Nat.beq j i = false) : Sp i S j = S j := by simp [Sp, h]
theorem aBb {i : Nat} {S : Nat → Bool} : ∀ {l : List (Nat × MO)} {m : MO}, aAw i l = false → qP (Sp i S) l m = qP S l m
 | [], _, _ => rfl
 | (j, x) :: l, m, h => by
  simp only [aAw, Bool.or_eq_false_iff] at h
  simp only [qP, aLp h.1, aBb h.2]
theorem zK {i : Nat} {S : Nat → Bool} : ∀ {obs : List Stg}, yM i obs = true → gP (Sp i S) obs = gP S obs
 | [], _ => rfl
 | s :: r, h => by
  simp only [yM, Bool.and_eq_true, Bool.not_eq_true'] at h
  simp only [gP, aBb h.1, zK h.2]
theorem xS {i : Nat} {S : Nat → Bool} : ∀ {p : Nat} {obs : List Stg}, xC i p obs = true → ∀ {s : Stg} {x : MO}, obs[p]? = some s → qP (Sp i S) s.1 s.2 = x → gP (Sp i S) obs = (gP S obs).set p x
 | p, [], _, s, x, h, _ => by simp at h
 | 0, s0 :: r, ho, s, x, h, hx => by
  simp at h; subst h; subst hx
  simp only [gP, List.set_cons_zero]
  rw [zK ho]
 | p + 1, s0 :: r, ho, s, x, h, hx => by
  simp only [xC, Bool.and_eq_true, Bool.not_eq_true'] at ho
  simp only [gP, List.set_cons_succ, aBb ho.1]
  rw [xS ho.2 (by simpa using h) hx]
theorem aEh {m : Nat} {S S' : Nat → Bool} (hS : ∀ j, j < m → S' j = S j) : ∀ {l : List (Nat × MO)} {x : MO}, (l.all fun x => Nat.blt x.1 m) = true → qP S' l x = qP S l x
 | [], _, _ => rfl
 | (j, y) :: l, x, h => by
  simp only [List.all_cons, Bool.and_eq_true] at h
  simp only [qP, hS j (aL h.1), aEh hS h.2]
theorem aCl {m : Nat} {S S' : Nat → Bool} (hS : ∀ j, j < m → S' j = S j) : ∀ {obs : List Stg}, vG m obs = true → gP S' obs = gP S obs
 | [], _ => rfl
 | s :: r, h => by
  simp only [vG, Bool.and_eq_true] at h
  simp only [gP, aEh hS h.1, aCl hS h.2]
def aKq (no : List Nat) : Tab → Tab → Prop
 | [], [] => True
 | x :: l, x' :: l' => x.1 = x'.1 ∧ x.2.1 = x'.2.1 ∧ (gM x.2.1 no = true ∨ x.2.2 = x'.2.2) ∧ aKq no l l'
 | _, _ => False
def aGz (no : List Nat) : List (Nat × MO) → List (Nat × MO) → Prop
 | [], [] => True
 | x :: l, x' :: l' => x.1 = x'.1 ∧ (gM x.1 no = true ∨ x.2 = x'.2) ∧ aGz no l l'
 | _, _ => False
def aGy (no : List Nat) : List Stg → List Stg → Prop
 | [], [] => True
 | s :: r, s' :: r' => aGz no s.1 s'.1 ∧ s.2 = s'.2 ∧ aGy no r r'
 | _, _ => False
theorem aDu {no : List Nat} {S : Nat → Bool} {base : Nat → AV} (hS : ∀ j, gM j no = true → S j = false) : ∀ {t t' : Tab}, aKq no t t' → ∀ k, ov t S base k = ov t' S base k
 | [], [], _, k => rfl
 | (d, j, v) :: l, (d', j', v') :: l', h, k => by
  obtain ⟨h1, h2, h3, h4⟩ := h
  simp only at h1 h2 h3
  subst h1; subst h2
  have ih := aDu (base := base) hS h4 k
  unfold ov at ih ⊢
  simp only [find]
  cases hk : Nat.beq d k with
  | false => simpa using ih
  | true =>
   simp only [cond_true]
   rcases h3 with h3 | h3
   ·rw [hS j h3]; rfl
   ·rw [h3]
theorem aEg {no : List Nat} {S : Nat → Bool} (hS : ∀ j, gM j no = true → S j = false) : ∀ {l l' : List (Nat × MO)} {m : MO}, aGz no l l' → qP S l m = qP S l' m
 | [], [], _, _ => rfl
 | (j, x) :: l, (j', x') :: l', m, h => by
  obtain ⟨h1, h2, h3⟩ := h
  simp only at h1 h2
  subst h1
  simp only [qP, aEg hS h3]
  rcases h2 with h2 | h2
  ·rw [hS j h2]; rfl
  ·rw [h2]
theorem aCk {no : List Nat} {S : Nat → Bool} (hS : ∀ j, gM j no = true → S j = false) : ∀ {o o' : List Stg}, aGy no o o' → gP S o = gP S o'
 | [], [], _ => rfl
 | s :: r, s' :: r', h => by
  simp only [gP, aEg hS h.1, h.2.1, aCk hS h.2.2]
def aBt (i : Nat) : Tab → Bool
 | [] => true
 | x :: l => !(Nat.beq x.2.1 i) && aBt i l
theorem aDv {i : Nat} : ∀ {t : Tab}, aBt i t = true → ∀ {k j : Nat} {v : AV}, find t k = some (j, v) → Nat.beq j i = false
 | [], _, k, j, v, h => by simp [find] at h
 | (d0, j0, v0) :: l, hn, k, j, v, h => by
  simp only [aBt, Bool.and_eq_true, Bool.not_eq_true'] at hn
  simp only [find] at h
  cases hb : Nat.beq d0 k with
  | true => rw [hb] at h; simp at h; rw [← h.1]; exact hn.1
  | false => rw [hb] at h; exact aDv hn.2 (by simpa using h)
theorem aOp {i : Nat} {t : Tab} {S : Nat → Bool} {base : Nat → AV} (hn : aBt i t = true) (k : Nat) : ov t (Sp i S) base k = ov t S base k := by
 unfold ov
 cases hf : find t k with
 | none => rfl
 | some p =>
  obtain ⟨j, v⟩ := p
  simp only [aLp (aDv hn hf)]
theorem Knows.sp {S : Nat → Bool} {yes no : List Nat} {i : Nat} (h : Knows S yes no) (hn : gM i no = false) : Knows (Sp i S) (i :: yes) no := by
 refine ⟨fun j hj => ?_, fun j hj => ?_⟩
 ·simp only [gM] at hj
  cases hb : Nat.beq i j with
  | true => have := Nat.eq_of_beq_eq_true hb; subst this; simp [Sp]
  | false => rw [hb] at hj; simp only [cond_false] at hj; simp [Sp, h.y j hj]
 ·have : Nat.beq j i = false := by
   cases hb : Nat.beq j i with
   | false => rfl
   | true => have := Nat.eq_of_beq_eq_true hb; subst this; rw [hn] at hj; cases hj
  rw [aLp this]; exact h.n j hj
theorem Knows.tl {S : Nat → Bool} {yes no : List Nat} {i : Nat} (h : Knows S yes (i :: no)) : Knows S yes no := ⟨h.y, fun j hj => h.n j (by simp only [gM]; cases Nat.beq i j <;> simp [hj])⟩
theorem Knows.cons {S : Nat → Bool} {yes no : List Nat} {i : Nat} (h : Knows S yes no) (hi : S i = false) : ∀ j, gM j (i :: no) = true → S j = false := by
 intro j hj
 simp only [gM] at hj
 cases hb : Nat.beq i j with
 | true => have := Nat.eq_of_beq_eq_true hb; subst this; exact hi
 | false => rw [hb] at hj; exact h.n j (by simpa using hj)
def xN (P : Program) (n : Nat) (ops : Array Oper) (o : Oper) (tab : Mk → Tab) (base : Nat → AV) (obs : Mk → List Stg) (i : Nat) (X : Mk) (S : Nat → Bool) : Prop :=
 GStepP P n ops o ⟨ov (tab X) S base, gP S (obs X)⟩ (fun s => ∃ X', Ent s ⟨ov (tab X') (Sp i S) base, gP (Sp i S) (obs X')⟩)
def XSteps (P : Program) (n : Nat) (ops : Array Oper) (tab : Mk → Tab) (base : Nat → AV) (obs : Mk → List Stg) : List Oper → List (List Nat × List Nat) → Nat → Prop
 | [], _, _ => True
 | o :: l, yn, i => (∀ (X : Mk) (S : Nat → Bool), (∀ X, kK (tab X) = true) → S i = false → Knows S (yn.headD ([], [])).1 (i :: (yn.headD ([], [])).2) →
   xN P n ops o tab base obs i X S) ∧ XSteps P n ops tab base obs l yn.tail (i + 1)
theorem XSteps.get {P : Program} {n : Nat} {ops : Array Oper} {tab : Mk → Tab} {base : Nat → AV} {obs : Mk → List Stg} : ∀ {l : List Oper} {yn : List (List Nat × List Nat)} {k : Nat}, XSteps P n ops tab base obs l yn k → ∀ {i : Nat} {o : Oper}, l[i]? = some o →
  ∀ (X : Mk) (S : Nat → Bool), (∀ X, kK (tab X) = true) → S (k + i) = false → Knows S (yn.getD i ([], [])).1 ((k + i) :: (yn.getD i ([], [])).2) →
   xN P n ops o tab base obs (k + i) X S
 | [], _, _, _, i, o, h => by simp at h
 | _ :: _, yn, k, h, 0, o, ho => by
  simp at ho; subst ho
  have := h.1
  cases yn <;> simpa using this
 | _ :: l, yn, k, h, i + 1, o, ho => by
  have := h.2.get (i := i) (by simpa using ho)
  rw [show k + 1 + i = k + (i + 1) by omega] at this
  cases yn <;> simpa using this
section
variable {P : Program} {n : Nat} {st : St} {Q : Exit → St → Prop} {ops : Array Oper} {o : Oper}
theorem GStep.toP' {st1 st2 : St} (h : GStep P n ops o st1 st2) {Post : St → Prop} (hp : Post st2) : GStepP P n ops o st1 Post := by
 rcases h with ⟨hw, h⟩ | ⟨hw, d, ho, hd, rfl⟩
 ·exact .inl ⟨hw, fun A M w0 a w hR K Q hK => h A M w0 a w hR K Q fun s a' w' e hR' => hK s a' w' (e ▸ hp) hR'⟩
 ·exact .inr ⟨hw, d, ho, hd, hp⟩
def nob : MO := .box 0 0 []
theorem aQc {env : Nat → AV} {objs : List MO} : Ent ⟨env, objs⟩ ⟨env, objs ++ [nob]⟩ := by
 intro A M w0 n a w hR
 refine hR.change (Keeps.refl (fun _ _ => False) w) (fun _ _ h => h.elim) (fun b o _ hx => ?_) ?_ fun hm m hmm => ?_
 ·rcases mU.1 hx with h | ⟨m, hm, hf⟩
  ·exact h
  ·simp at hm; subst hm; obtain ⟨_, h1, h2⟩ := hf; simp at h2
 ·refine List.pairwise_append.2 ⟨hR.inv.sep, by simp, fun x hx y hy b o h1 h2 => ?_⟩
  simp at hy; subst hy; obtain ⟨_, h3, h4⟩ := h2; simp at h4
 ·rcases List.mem_append.1 hmm with h | h
  ·exact dE (hR.inv.holds m h) (Keeps.refl (fun _ _ => False) w) (fun _ _ _ h => h) hm
  ·simp at h; subst h
   exact ⟨[], trivial, fun j v h => by simp at h, fun j h => by simp at h⟩
theorem aHu {env : Nat → AV} {objs : List MO} : ∀ q, Ent ⟨env, objs⟩ ⟨env, objs ++ List.replicate q nob⟩
 | 0 => by simpa using Ent.refl _
 | q + 1 => by
  have := (aHu (env := env) (objs := objs) q).trans aQc
  rwa [List.append_assoc, ← List.replicate_succ'] at this
theorem aRz {tab : Mk → Tab} {base : Nat → AV} {obs : Mk → List Stg} {X : Mk} {S : Nat → Bool} {i d : Nat} {v : AV} (hf : find (tab X) d = some (i, v)) (hown : kK (tab X) = true) (hfree : yM i (obs X) = true)
  (h : GStep P n ops o ⟨ov (tab X) S base, gP S (obs X)⟩ ⟨upd (ov (tab X) S base) d v, gP S (obs X)⟩) :
  xN P n ops o tab base obs i X S := by
 refine h.toP' ⟨X, ?_⟩
 have : ov (tab X) (Sp i S) base = upd (ov (tab X) S base) d v := funext fun k => aBu hown hf k
 rw [this, zK hfree]
 exact Ent.refl _
theorem aRd {tab : Mk → Tab} {base : Nat → AV} {obs : Mk → List Stg} {X : Mk} {S : Nat → Bool} {yes no : List Nat} {i p : Nat} {s0 : Stg} {mo : MO} (hS : Knows S yes (i :: no)) (hno : gM i no = false) (hn : aBt i (tab X) = true) (ho : xC i p (obs X) = true)
  (hp : (obs X)[p]? = some s0) (hm : zL (i :: yes) no s0.1 s0.2 = some mo)
  (h : GStep P n ops o ⟨ov (tab X) S base, gP S (obs X)⟩ ⟨ov (tab X) S base, (gP S (obs X)).set p mo⟩) :
  xN P n ops o tab base obs i X S := by
 refine h.toP' ⟨X, ?_⟩
 have : ov (tab X) (Sp i S) base = ov (tab X) S base := funext fun k => aOp hn k
 rw [this, xS ho hp (yP (hS.tl.sp hno) hm)]
 exact Ent.refl _
theorem aNm {tab : Mk → Tab} {base : Nat → AV} {obs : Mk → List Stg} {X : Mk} {S : Nat → Bool} {yes no : List Nat} {i d p : Nat} {v : AV} {s0 : Stg} {mo : MO} (hS : Knows S yes (i :: no)) (hg : o.guard = none) (hno : gM i no = false)
  (hf : find (tab X) d = some (i, v)) (hown : kK (tab X) = true) (ho : xC i p (obs X) = true) (hp : (obs X)[p]? = some s0) (hm : zL (i :: yes) no s0.1 s0.2 = some mo)
  (h : Step P n o ⟨ov (tab X) S base, gP S (obs X)⟩ (fun s => Ent s ⟨upd (ov (tab X) S base) d v, (gP S (obs X)).set p mo⟩)) :
  xN P n ops o tab base obs i X S := by
 refine .inl ⟨fun _ _ _ _ _ _ => by simp [Region.wanted, hg], fun A M w0 a w hR K Q hK => h A M w0 a w hR K Q fun s a' w' he hR' => hK s a' w' ⟨X, ?_⟩ hR'⟩
 have : ov (tab X) (Sp i S) base = upd (ov (tab X) S base) d v := funext fun k => aBu hown hf k
 rw [this, xS ho hp (yP (hS.tl.sp hno) hm)]
 exact he
theorem eQ {tab : Mk → Tab} {base : Nat → AV} {obs : Mk → List Stg} {X : Mk} {S : Nat → Bool} {yes no : List Nat} {i d p : Nat} {v : XV → AV} {s0 : XV → Stg} {mo : XV → MO} (hS : Knows S yes (i :: no)) (hi : S i = false) (hg : o.guard = none) (hno : gM i no = false)
  (hf : ∀ x, find (tab (aBh X i x)) d = some (i, v x)) (hown : ∀ X, kK (tab X) = true) (ho : ∀ X, xC i p (obs X) = true) (hp : ∀ x, (obs (aBh X i x))[p]? = some (s0 x)) (hm : ∀ x, zL (i :: yes) no (s0 x).1 (s0 x).2 = some (mo x))
  (hat : ∀ x, aKq (i :: no) (tab (aBh X i x)) (tab X)) (hao : ∀ x, aGy (i :: no) (obs (aBh X i x)) (obs X))
  (h : Step P n o ⟨ov (tab X) S base, gP S (obs X)⟩ (fun s => ∃ x, Ent s ⟨upd (ov (tab X) S base) d (v x), (gP S (obs X)).set p (mo x)⟩)) :
  xN P n ops o tab base obs i X S := by
 refine .inl ⟨fun _ _ _ _ _ _ => by simp [Region.wanted, hg], fun A M w0 a w hR K Q hK => h A M w0 a w hR K Q ?_⟩
 rintro s a' w' ⟨x, he⟩ hR'
 refine hK s a' w' ⟨aBh X i x, ?_⟩ hR'
 have h1 : ov (tab (aBh X i x)) (Sp i S) base = upd (ov (tab X) S base) d (v x) := by
  funext k
  rw [show ov (tab (aBh X i x)) (Sp i S) base k = _ from aBu (hown _) (hf x) k]
  have : ov (tab (aBh X i x)) S base = ov (tab X) S base := funext fun k => aDu (hS.n) (hat x) k
  rw [this]
 rw [h1, xS (ho _) (hp x) (yP (hS.tl.sp hno) (hm x)), aCk (hS.n) (hao x)]
 exact he
def XOK (P : Program) (n : Nat) (l : List Oper) (m q : Nat) (tab : Mk → Tab) (obs : Mk → List Stg) (st : St) : Prop :=
 vP l = true ∧ rW (kL l l.length) m l.length = true ∧ Nat.ble m l.length = true ∧ (∀ X, kK (tab X) = true) ∧ (∀ X, ((tab X).all fun x => Nat.blt x.2.1 m) = true) ∧ (∀ X, vG m (obs X) = true) ∧
  (∀ X, gP (fun _ => false) (obs X) = st.objs ++ List.replicate q nob) ∧
  ∃ yn, aDj (kL l l.length) m yn = true ∧ XSteps P n l.toArray tab st.env obs (l.take m) yn 0
theorem aPf {id : Nat} {l : List Oper} (hm : P.follows .mixedOrders = true) (m q : Nat) (tab : Mk → Tab) (obs : Mk → List Stg) (ks : List Nat) (us : Mk → List (Nat × AV)) (objs : Mk → List MO) (h : XOK P n l m q tab obs st)
  (he : ∀ X, Ent ⟨ov (tab X) (fun _ => true) st.env, gP (fun _ => true) (obs X)⟩ ⟨tS (keep ks st.env) (us X), objs X⟩)
  (htail : ∀ X, TrL P n l.toArray (l.drop m) ⟨tS (keep ks st.env) (us X), objs X⟩ Q) : Tr P n (.region id l.toArray true) st Q := by
 obtain ⟨h1, h2, h3, hw, h4, h5, h6, yn, h7, h8⟩ := h
 refine bL (aHu q) ?_
 have h0 : (⟨st.env, st.objs ++ List.replicate q nob⟩ : St) = ⟨ov (tab fun _ => ⟨0, undef⟩) (fun _ => false) st.env, gP (fun _ => false) (obs fun _ => ⟨0, undef⟩)⟩ := by
  rw [h6]
  congr 1
  funext k
  unfold ov
  cases find (tab fun _ => ⟨0, undef⟩) k <;> rfl
 refine aJi m (fun S st' => ∃ X, st' = ⟨ov (tab X) S st.env, gP S (obs X)⟩) hm h1 h2 h3 yn h7 ⟨_, h0⟩ ?_ ?_ ?_
 ·rintro S S' st' hS ⟨X, rfl⟩
  refine ⟨X, ?_⟩
  rw [aCl hS (h5 X)]
  congr 1
  funext k
  unfold ov
  cases hf : find (tab X) k with
  | none => rfl
  | some p =>
   obtain ⟨j, v⟩ := p
   have hjm : j < m := aL (List.all_eq_true.1 (h4 X) _ (wN hf))
   simp [hS j hjm]
 ·rintro i o hoi S st' ⟨X, rfl⟩ hi hk
  have := h8.get hoi X S hw (by rw [Nat.zero_add]; exact hi) ⟨hk.y, by rw [Nat.zero_add]; exact hk.cons hi⟩
  rw [Nat.zero_add] at this
  rcases this with ⟨hw', h⟩ | ⟨hw', d, ho, hd, X', he'⟩
  ·exact .inl ⟨hw', fun A M w0 a w hR K Q hK => h A M w0 a w hR K Q fun s a' w' ⟨X', he'⟩ hR' => hK s a' w' ⟨_, ⟨X', rfl⟩, he'⟩ hR'⟩
  ·exact .inr ⟨hw', d, ho, hd, _, ⟨X', rfl⟩, he'⟩
 ·rintro st' ⟨X, rfl⟩
  exact dC (he X) (htail X)
theorem dU {id : Nat} {l : List Oper} (hm : P.follows .mixedOrders = true) (m : Nat) (ks : List Nat) (us : Mk → List (Nat × AV)) (objs : Mk → List MO)
  (h : ∃ q tab obs, XOK P n l m q tab obs st ∧ ∀ X, Ent ⟨ov (tab X) (fun _ => true) st.env, gP (fun _ => true) (obs X)⟩ ⟨tS (keep ks st.env) (us X), objs X⟩)
  (htail : ∀ X, TrL P n l.toArray (l.drop m) ⟨tS (keep ks st.env) (us X), objs X⟩ Q) : Tr P n (.region id l.toArray true) st Q := by
 obtain ⟨q, tab, obs, h, he⟩ := h
 exact aPf hm m q tab obs ks us objs h he htail
theorem le_refl (e : Nat → AV) : Le e e := fun _ => .inr rfl
theorem aPa {st1 : St} {Post : St → Prop} (he : Ent st st1) (h : Step P n o st1 Post) : Step P n o st Post := fun A M w0 a w hR K Q hK => h A M w0 a w (he A M w0 n a w hR) K Q hK
theorem cS {Post Post' : St → Prop} (h : Step P n o st Post) (hp : ∀ s, Post s → Post' s) : Step P n o st Post' := fun A M w0 a w hR K Q hK => h A M w0 a w hR K Q fun s a' w' hs hR' => hK s a' w' (hp s hs) hR'
end
end Go.Am
