/- The program logic 'Am': a region whose order is open, in which objects are made and changed. -/
import Derived.Test.YtfdappeickbpeaaGreatAmDraw
namespace Go.Am

/-- What the making of an object brings: a block, or a slice. -/
structure XV where
  b : Nat
  v : Value
abbrev Mk := Nat → XV
def xU (X : Mk) (i : Nat) (x : XV) : Mk := fun k => bif Nat.beq k i then x else X k
def Sp (i : Nat) (S : Nat → Bool) : Nat → Bool := fun j => Nat.beq j i || S j

/-- An object and its changes: the latest first. -/
abbrev Stg := List (Nat × MO) × MO
def nP (S : Nat → Bool) : List (Nat × MO) → MO → MO
  | [], m => m
  | (i, x) :: l, m => bif S i then x else nP S l m
def gE (S : Nat → Bool) : List Stg → List MO
  | [] => []
  | s :: r => nP S s.1 s.2 :: gE S r
def xM (yes no : List Nat) : List (Nat × MO) → MO → Option MO
  | [], m => some m
  | (i, x) :: l, m => bif fB i yes then some x else bif fB i no then xM yes no l m else none
def xF (i : Nat) : List (Nat × MO) → Bool
  | [] => false
  | (j, _) :: l => Nat.beq j i || xF i l
def xE (i : Nat) : List Stg → Bool
  | [] => true
  | s :: r => !(xF i s.1) && xE i r
def vG (i : Nat) : Nat → List Stg → Bool
  | _, [] => true
  | 0, _ :: r => xE i r
  | p + 1, s :: r => !(xF i s.1) && vG i p r
def uE (m : Nat) : List Stg → Bool
  | [] => true
  | s :: r => s.1.all (fun x => Nat.blt x.1 m) && uE m r

theorem vH {S : Nat → Bool} {yes no : List Nat} (hS : Knows S yes no) : ∀ {l : List (Nat × MO)} {m x : MO}, xM yes no l m = some x → nP S l m = x
  | [], m, x, h => by simpa [xM, nP] using h
  | (i, y) :: l, m, x, h => by
    simp only [xM] at h
    simp only [nP]
    cases hy : fB i yes with
    | true => rw [hy] at h; simp at h; simp [hS.y i hy, h]
    | false =>
      cases hn : fB i no with
      | true => rw [hy, hn] at h; simp at h; simp [hS.n i hn, vH hS h]
      | false => rw [hy, hn] at h; simp at h

/-- An object of the state, where some operations are known to be done, and some not. -/
theorem og {S : Nat → Bool} {yes no : List Nat} {objs : List MO} {i : Nat} {l : List (Nat × MO)} {m x : MO} (hS : Knows S yes no) (h : objs[i]? = some (nP S l m)) (h2 : xM yes no l m = some x) : objs[i]? = some x := by
  rw [h, vH hS h2]

theorem aHz {i j : Nat} {S : Nat → Bool} (h : Nat.beq j i = false) : Sp i S j = S j := by simp [Sp, h]
theorem xN {i : Nat} {S : Nat → Bool} : ∀ {l : List (Nat × MO)} {m : MO}, xF i l = false → nP (Sp i S) l m = nP S l m
  | [], _, _ => rfl
  | (j, x) :: l, m, h => by
    simp only [xF, Bool.or_eq_false_iff] at h
    simp only [nP, aHz h.1, xN h.2]
theorem wC {i : Nat} {S : Nat → Bool} : ∀ {obs : List Stg}, xE i obs = true → gE (Sp i S) obs = gE S obs
  | [], _ => rfl
  | s :: r, h => by
    simp only [xE, Bool.and_eq_true, Bool.not_eq_true'] at h
    simp only [gE, xN h.1, wC h.2]
theorem uF {i : Nat} {S : Nat → Bool} : ∀ {p : Nat} {obs : List Stg}, vG i p obs = true → ∀ {s : Stg} {x : MO}, obs[p]? = some s → nP (Sp i S) s.1 s.2 = x → gE (Sp i S) obs = (gE S obs).set p x
  | p, [], _, s, x, h, _ => by simp at h
  | 0, s0 :: r, ho, s, x, h, hx => by
    simp at h; subst h; subst hx
    simp only [gE, List.set_cons_zero]
    rw [wC ho]
  | p + 1, s0 :: r, ho, s, x, h, hx => by
    simp only [vG, Bool.and_eq_true, Bool.not_eq_true'] at ho
    simp only [gE, List.set_cons_succ, xN ho.1]
    rw [uF ho.2 (by simpa using h) hx]
theorem aAr {m : Nat} {S S' : Nat → Bool} (hS : ∀ j, j < m → S' j = S j) : ∀ {l : List (Nat × MO)} {x : MO}, (l.all fun x => Nat.blt x.1 m) = true → nP S' l x = nP S l x
  | [], _, _ => rfl
  | (j, y) :: l, x, h => by
    simp only [List.all_cons, Bool.and_eq_true] at h
    simp only [nP, hS j (aK h.1), aAr hS h.2]
theorem yU {m : Nat} {S S' : Nat → Bool} (hS : ∀ j, j < m → S' j = S j) : ∀ {obs : List Stg}, uE m obs = true → gE S' obs = gE S obs
  | [], _ => rfl
  | s :: r, h => by
    simp only [uE, Bool.and_eq_true] at h
    simp only [gE, aAr hS h.1, yU hS h.2]

/-- Tables that differ only in what is not done. -/
def aGy (no : List Nat) : Tab → Tab → Prop
  | [], [] => True
  | x :: l, x' :: l' => x.1 = x'.1 ∧ x.2.1 = x'.2.1 ∧ (fB x.2.1 no = true ∨ x.2.2 = x'.2.2) ∧ aGy no l l'
  | _, _ => False
def aDj (no : List Nat) : List (Nat × MO) → List (Nat × MO) → Prop
  | [], [] => True
  | x :: l, x' :: l' => x.1 = x'.1 ∧ (fB x.1 no = true ∨ x.2 = x'.2) ∧ aDj no l l'
  | _, _ => False
def aDi (no : List Nat) : List Stg → List Stg → Prop
  | [], [] => True
  | s :: r, s' :: r' => aDj no s.1 s'.1 ∧ s.2 = s'.2 ∧ aDi no r r'
  | _, _ => False

theorem aAb {no : List Nat} {S : Nat → Bool} {base : Nat → AV} (hS : ∀ j, fB j no = true → S j = false) : ∀ {t t' : Tab}, aGy no t t' → ∀ k, ov t S base k = ov t' S base k
  | [], [], _, k => rfl
  | (d, j, v) :: l, (d', j', v') :: l', h, k => by
    obtain ⟨h1, h2, h3, h4⟩ := h
    simp only at h1 h2 h3
    subst h1; subst h2
    have ih := aAb (base := base) hS h4 k
    unfold ov at ih ⊢
    simp only [find]
    cases hk : Nat.beq d k with
    | false => simpa using ih
    | true =>
      simp only [cond_true]
      rcases h3 with h3 | h3
      · rw [hS j h3]; rfl
      · rw [h3]
theorem aAq {no : List Nat} {S : Nat → Bool} (hS : ∀ j, fB j no = true → S j = false) : ∀ {l l' : List (Nat × MO)} {m : MO}, aDj no l l' → nP S l m = nP S l' m
  | [], [], _, _ => rfl
  | (j, x) :: l, (j', x') :: l', m, h => by
    obtain ⟨h1, h2, h3⟩ := h
    simp only at h1 h2
    subst h1
    simp only [nP, aAq hS h3]
    rcases h2 with h2 | h2
    · rw [hS j h2]; rfl
    · rw [h2]
theorem yT {no : List Nat} {S : Nat → Bool} (hS : ∀ j, fB j no = true → S j = false) : ∀ {o o' : List Stg}, aDi no o o' → gE S o = gE S o'
  | [], [], _ => rfl
  | s :: r, s' :: r', h => by
    simp only [gE, aAq hS h.1, h.2.1, yT hS h.2.2]

def aAn (i : Nat) : Tab → Bool
  | [] => true
  | x :: l => !(Nat.beq x.2.1 i) && aAn i l
theorem aAc {i : Nat} : ∀ {t : Tab}, aAn i t = true → ∀ {k j : Nat} {v : AV}, find t k = some (j, v) → Nat.beq j i = false
  | [], _, k, j, v, h => by simp [find] at h
  | (d0, j0, v0) :: l, hn, k, j, v, h => by
    simp only [aAn, Bool.and_eq_true, Bool.not_eq_true'] at hn
    simp only [find] at h
    cases hb : Nat.beq d0 k with
    | true => rw [hb] at h; simp at h; rw [← h.1]; exact hn.1
    | false => rw [hb] at h; exact aAc hn.2 (by simpa using h)
theorem aKq {i : Nat} {t : Tab} {S : Nat → Bool} {base : Nat → AV} (hn : aAn i t = true) (k : Nat) : ov t (Sp i S) base k = ov t S base k := by
  unfold ov
  cases hf : find t k with
  | none => rfl
  | some p =>
    obtain ⟨j, v⟩ := p
    simp only [aHz (aAc hn hf)]

theorem Knows.sp {S : Nat → Bool} {yes no : List Nat} {i : Nat} (h : Knows S yes no) (hn : fB i no = false) : Knows (Sp i S) (i :: yes) no := by
  refine ⟨fun j hj => ?_, fun j hj => ?_⟩
  · simp only [fB] at hj
    cases hb : Nat.beq i j with
    | true => have := Nat.eq_of_beq_eq_true hb; subst this; simp [Sp]
    | false => rw [hb] at hj; simp only [cond_false] at hj; simp [Sp, h.y j hj]
  · have : Nat.beq j i = false := by
      cases hb : Nat.beq j i with
      | false => rfl
      | true => have := Nat.eq_of_beq_eq_true hb; subst this; rw [hn] at hj; cases hj
    rw [aHz this]; exact h.n j hj
theorem Knows.tl {S : Nat → Bool} {yes no : List Nat} {i : Nat} (h : Knows S yes (i :: no)) : Knows S yes no := ⟨h.y, fun j hj => h.n j (by simp only [fB]; cases Nat.beq i j <;> simp [hj])⟩
theorem Knows.cons {S : Nat → Bool} {yes no : List Nat} {i : Nat} (h : Knows S yes no) (hi : S i = false) : ∀ j, fB j (i :: no) = true → S j = false := by
  intro j hj
  simp only [fB] at hj
  cases hb : Nat.beq i j with
  | true => have := Nat.eq_of_beq_eq_true hb; subst this; exact hi
  | false => rw [hb] at hj; exact h.n j (by simpa using hj)

/-- What one operation must show. -/
def yC (P : Program) (n : Nat) (ops : Array Oper) (o : Oper) (tab : Mk → Tab) (base : Nat → AV) (obs : Mk → List Stg) (i : Nat) (X : Mk) (S : Nat → Bool) : Prop :=
  GStepP P n ops o ⟨ov (tab X) S base, gE S (obs X)⟩ (fun s => ∃ X', Ent s ⟨ov (tab X') (Sp i S) base, gE (Sp i S) (obs X')⟩)
/-- The steps of the operations before the tail. -/
def XSteps (P : Program) (n : Nat) (ops : Array Oper) (tab : Mk → Tab) (base : Nat → AV) (obs : Mk → List Stg) : List Oper → List (List Nat × List Nat) → Nat → Prop
  | [], _, _ => True
  | o :: l, yn, i => (∀ (X : Mk) (S : Nat → Bool), (∀ X, lE (tab X) = true) → S i = false → Knows S (yn.headD ([], [])).1 (i :: (yn.headD ([], [])).2) →
      yC P n ops o tab base obs i X S) ∧ XSteps P n ops tab base obs l yn.tail (i + 1)

theorem XSteps.get {P : Program} {n : Nat} {ops : Array Oper} {tab : Mk → Tab} {base : Nat → AV} {obs : Mk → List Stg} : ∀ {l : List Oper} {yn : List (List Nat × List Nat)} {k : Nat}, XSteps P n ops tab base obs l yn k → ∀ {i : Nat} {o : Oper}, l[i]? = some o →
    ∀ (X : Mk) (S : Nat → Bool), (∀ X, lE (tab X) = true) → S (k + i) = false → Knows S (yn.getD i ([], [])).1 ((k + i) :: (yn.getD i ([], [])).2) →
      yC P n ops o tab base obs (k + i) X S
  | [], _, _, _, i, o, h => by simp at h
  | _ :: _, yn, k, h, 0, o, ho => by
    simp at ho; subst ho
    have := h.1
    cases yn <;> simpa using this
  | _ :: l, yn, k, h, i + 1, o, ho => by
    have := h.2.get (i := i) (by simpa using ho)
    rw [show k + 1 + i = k + (i + 1) by omega] at this
    cases yn <;> simpa using this

section
variable {P : Program} {n : Nat} {st : St} {Q : Exit → St → Prop} {ops : Array Oper} {o : Oper}

theorem GStep.toP' {st1 st2 : St} (h : GStep P n ops o st1 st2) {Post : St → Prop} (hp : Post st2) : GStepP P n ops o st1 Post := by
  rcases h with ⟨hw, h⟩ | ⟨hw, d, ho, hd, rfl⟩
  · exact .inl ⟨hw, fun A M w0 a w hR K Q hK => h A M w0 a w hR K Q fun s a' w' e hR' => hK s a' w' (e ▸ hp) hR'⟩
  · exact .inr ⟨hw, d, ho, hd, hp⟩

def nob : MO := .box 0 0 []
theorem aMb {env : Nat → AV} {objs : List MO} : Ent ⟨env, objs⟩ ⟨env, objs ++ [nob]⟩ := by
  intro A M w0 n a w hR
  refine hR.change (Keeps.refl (fun _ _ => False) w) (fun _ _ h => h.elim) (fun b o _ hx => ?_) ?_ fun hm m hmm => ?_
  · rcases kS.1 hx with h | ⟨m, hm, hf⟩
    · exact h
    · simp at hm; subst hm; obtain ⟨_, h1, h2⟩ := hf; simp at h2
  · refine List.pairwise_append.2 ⟨hR.inv.sep, by simp, fun x hx y hy b o h1 h2 => ?_⟩
    simp at hy; subst hy; obtain ⟨_, h3, h4⟩ := h2; simp at h4
  · rcases List.mem_append.1 hmm with h | h
    · exact cV (hR.inv.holds m h) (Keeps.refl (fun _ _ => False) w) (fun _ _ _ h => h) hm
    · simp at h; subst h
      exact ⟨[], trivial, fun j v h => by simp at h, fun j h => by simp at h⟩
theorem aDw {env : Nat → AV} {objs : List MO} : ∀ q, Ent ⟨env, objs⟩ ⟨env, objs ++ List.replicate q nob⟩
  | 0 => by simpa using Ent.refl _
  | q + 1 => by
    have := (aDw (env := env) (objs := objs) q).trans aMb
    rwa [List.append_assoc, ← List.replicate_succ'] at this

/-- An operation that fills a slot. -/
theorem aZ {tab : Mk → Tab} {base : Nat → AV} {obs : Mk → List Stg} {X : Mk} {S : Nat → Bool} {i d : Nat} {v : AV} (hf : find (tab X) d = some (i, v)) (hown : lE (tab X) = true) (hfree : xE i (obs X) = true)
    (h : GStep P n ops o ⟨ov (tab X) S base, gE S (obs X)⟩ ⟨upd (ov (tab X) S base) d v, gE S (obs X)⟩) :
    yC P n ops o tab base obs i X S := by
  refine h.toP' ⟨X, ?_⟩
  have : ov (tab X) (Sp i S) base = upd (ov (tab X) S base) d v := funext fun k => yF hown hf k
  rw [this, wC hfree]
  exact Ent.refl _

/-- One that changes an object. -/
theorem oM {tab : Mk → Tab} {base : Nat → AV} {obs : Mk → List Stg} {X : Mk} {S : Nat → Bool} {yes no : List Nat} {i p : Nat} {s0 : Stg} {mo : MO} (hS : Knows S yes (i :: no)) (hno : fB i no = false) (hn : aAn i (tab X) = true) (ho : vG i p (obs X) = true)
    (hp : (obs X)[p]? = some s0) (hm : xM (i :: yes) no s0.1 s0.2 = some mo)
    (h : GStep P n ops o ⟨ov (tab X) S base, gE S (obs X)⟩ ⟨ov (tab X) S base, (gE S (obs X)).set p mo⟩) :
    yC P n ops o tab base obs i X S := by
  refine h.toP' ⟨X, ?_⟩
  have : ov (tab X) (Sp i S) base = ov (tab X) S base := funext fun k => aKq hn k
  rw [this, uF ho hp (vH (hS.tl.sp hno) hm)]
  exact Ent.refl _

/-- One that fills a slot and changes an object, as is known. -/
theorem aJu {tab : Mk → Tab} {base : Nat → AV} {obs : Mk → List Stg} {X : Mk} {S : Nat → Bool} {yes no : List Nat} {i d p : Nat} {v : AV} {s0 : Stg} {mo : MO} (hS : Knows S yes (i :: no)) (hg : o.guard = none) (hno : fB i no = false)
    (hf : find (tab X) d = some (i, v)) (hown : lE (tab X) = true) (ho : vG i p (obs X) = true) (hp : (obs X)[p]? = some s0) (hm : xM (i :: yes) no s0.1 s0.2 = some mo)
    (h : Step P n o ⟨ov (tab X) S base, gE S (obs X)⟩ (fun s => Ent s ⟨upd (ov (tab X) S base) d v, (gE S (obs X)).set p mo⟩)) :
    yC P n ops o tab base obs i X S := by
  refine .inl ⟨fun _ _ _ _ _ _ => by simp [Region.wanted, hg], fun A M w0 a w hR K Q hK => h A M w0 a w hR K Q fun s a' w' he hR' => hK s a' w' ⟨X, ?_⟩ hR'⟩
  have : ov (tab X) (Sp i S) base = upd (ov (tab X) S base) d v := funext fun k => yF hown hf k
  rw [this, uF ho hp (vH (hS.tl.sp hno) hm)]
  exact he

/-- One that makes something: a slot, and an object. -/
theorem qP {tab : Mk → Tab} {base : Nat → AV} {obs : Mk → List Stg} {X : Mk} {S : Nat → Bool} {yes no : List Nat} {i d p : Nat} {v : XV → AV} {s0 : XV → Stg} {mo : XV → MO} (hS : Knows S yes (i :: no)) (hi : S i = false) (hg : o.guard = none) (hno : fB i no = false)
    (hf : ∀ x, find (tab (xU X i x)) d = some (i, v x)) (hown : ∀ X, lE (tab X) = true) (ho : ∀ X, vG i p (obs X) = true) (hp : ∀ x, (obs (xU X i x))[p]? = some (s0 x)) (hm : ∀ x, xM (i :: yes) no (s0 x).1 (s0 x).2 = some (mo x))
    (hat : ∀ x, aGy (i :: no) (tab (xU X i x)) (tab X)) (hao : ∀ x, aDi (i :: no) (obs (xU X i x)) (obs X))
    (h : Step P n o ⟨ov (tab X) S base, gE S (obs X)⟩ (fun s => ∃ x, Ent s ⟨upd (ov (tab X) S base) d (v x), (gE S (obs X)).set p (mo x)⟩)) :
    yC P n ops o tab base obs i X S := by
  refine .inl ⟨fun _ _ _ _ _ _ => by simp [Region.wanted, hg], fun A M w0 a w hR K Q hK => h A M w0 a w hR K Q ?_⟩
  rintro s a' w' ⟨x, he⟩ hR'
  refine hK s a' w' ⟨xU X i x, ?_⟩ hR'
  have h1 : ov (tab (xU X i x)) (Sp i S) base = upd (ov (tab X) S base) d (v x) := by
    funext k
    rw [show ov (tab (xU X i x)) (Sp i S) base k = _ from yF (hown _) (hf x) k]
    have : ov (tab (xU X i x)) S base = ov (tab X) S base := funext fun k => aAb (hS.n) (hat x) k
    rw [this]
  rw [h1, uF (ho _) (hp x) (vH (hS.tl.sp hno) (hm x)), yT (hS.n) (hao x)]
  exact he

/-- All that the part of a region without order must show. -/
def XOK (P : Program) (n : Nat) (l : List Oper) (m q : Nat) (tab : Mk → Tab) (obs : Mk → List Stg) (st : St) : Prop :=
  uL l = true ∧ rP (kQ l l.length) m l.length = true ∧ Nat.ble m l.length = true ∧ (∀ X, lE (tab X) = true) ∧ (∀ X, ((tab X).all fun x => Nat.blt x.2.1 m) = true) ∧ (∀ X, uE m (obs X) = true) ∧
    (∀ X, gE (fun _ => false) (obs X) = st.objs ++ List.replicate q nob) ∧
    ∃ yn, aFl (kQ l l.length) m yn = true ∧ XSteps P n l.toArray tab st.env obs (l.take m) yn 0

theorem aLg {id : Nat} {l : List Oper} (hm : P.follows .mixedOrders = true) (m q : Nat) (tab : Mk → Tab) (obs : Mk → List Stg) (ks : List Nat) (us : Mk → List (Nat × AV)) (objs : Mk → List MO) (h : XOK P n l m q tab obs st)
    (he : ∀ X, Ent ⟨ov (tab X) (fun _ => true) st.env, gE (fun _ => true) (obs X)⟩ ⟨qO (keep ks st.env) (us X), objs X⟩)
    (htail : ∀ X, TrL P n l.toArray (l.drop m) ⟨qO (keep ks st.env) (us X), objs X⟩ Q) : Tr P n (.region id l.toArray true) st Q := by
  obtain ⟨h1, h2, h3, hw, h4, h5, h6, yn, h7, h8⟩ := h
  refine bM (aDw q) ?_
  have h0 : (⟨st.env, st.objs ++ List.replicate q nob⟩ : St) = ⟨ov (tab fun _ => ⟨0, undef⟩) (fun _ => false) st.env, gE (fun _ => false) (obs fun _ => ⟨0, undef⟩)⟩ := by
    rw [h6]
    congr 1
    funext k
    unfold ov
    cases find (tab fun _ => ⟨0, undef⟩) k <;> rfl
  refine aFi m (fun S st' => ∃ X, st' = ⟨ov (tab X) S st.env, gE S (obs X)⟩) hm h1 h2 h3 yn h7 ⟨_, h0⟩ ?_ ?_ ?_
  · rintro S S' st' hS ⟨X, rfl⟩
    refine ⟨X, ?_⟩
    rw [yU hS (h5 X)]
    congr 1
    funext k
    unfold ov
    cases hf : find (tab X) k with
    | none => rfl
    | some p =>
      obtain ⟨j, v⟩ := p
      have hjm : j < m := aK (List.all_eq_true.1 (h4 X) _ (tE hf))
      simp [hS j hjm]
  · rintro i o hoi S st' ⟨X, rfl⟩ hi hk
    have := h8.get hoi X S hw (by rw [Nat.zero_add]; exact hi) ⟨hk.y, by rw [Nat.zero_add]; exact hk.cons hi⟩
    rw [Nat.zero_add] at this
    rcases this with ⟨hw', h⟩ | ⟨hw', d, ho, hd, X', he'⟩
    · exact .inl ⟨hw', fun A M w0 a w hR K Q hK => h A M w0 a w hR K Q fun s a' w' ⟨X', he'⟩ hR' => hK s a' w' ⟨_, ⟨X', rfl⟩, he'⟩ hR'⟩
    · exact .inr ⟨hw', d, ho, hd, _, ⟨X', rfl⟩, he'⟩
  · rintro st' ⟨X, rfl⟩
    exact cZ (he X) (htail X)

theorem jV {id : Nat} {l : List Oper} (hm : P.follows .mixedOrders = true) (m : Nat) (ks : List Nat) (us : Mk → List (Nat × AV)) (objs : Mk → List MO)
    (h : ∃ q tab obs, XOK P n l m q tab obs st ∧ ∀ X, Ent ⟨ov (tab X) (fun _ => true) st.env, gE (fun _ => true) (obs X)⟩ ⟨qO (keep ks st.env) (us X), objs X⟩)
    (htail : ∀ X, TrL P n l.toArray (l.drop m) ⟨qO (keep ks st.env) (us X), objs X⟩ Q) : Tr P n (.region id l.toArray true) st Q := by
  obtain ⟨q, tab, obs, h, he⟩ := h
  exact aLg hm m q tab obs ks us objs h he htail

theorem le_refl (e : Nat → AV) : Le e e := fun _ => .inr rfl
/-- From another reading of the state. -/
theorem aLf {st1 : St} {Post : St → Prop} (he : Ent st st1) (h : Step P n o st1 Post) : Step P n o st Post := fun A M w0 a w hR K Q hK => h A M w0 a w (he A M w0 n a w hR) K Q hK
theorem jU {Post Post' : St → Prop} (h : Step P n o st Post) (hp : ∀ s, Post s → Post' s) : Step P n o st Post' := fun A M w0 a w hR K Q hK => h A M w0 a w hR K Q fun s a' w' hs hR' => hK s a' w' (hp s hs) hR'

end
end Go.Am
