/- The program logic 'Am': a region whose order is open, in which objects are made and changed. -/
import Derived.Test.YtoflekecpkjghaaGreatAmDraw
namespace Go.Am

/-- What the making of an object brings: a block, or a slice. -/
structure XV where
  b : Nat
  v : Value
abbrev Mk := Nat → XV
def aJl (X : Mk) (i : Nat) (x : XV) : Mk := fun k => bif Nat.beq k i then x else X k
def Sp (i : Nat) (S : Nat → Bool) : Nat → Bool := fun j => Nat.beq j i || S j

/-- An object and its changes: the latest first. -/
abbrev Stg := List (Nat × MO) × MO
def uT (S : Nat → Bool) : List (Nat × MO) → MO → MO
  | [], m => m
  | (i, x) :: l, m => bif S i then x else uT S l m
def kA (S : Nat → Bool) : List Stg → List MO
  | [] => []
  | s :: r => uT S s.1 s.2 :: kA S r
def aJa (yes no : List Nat) : List (Nat × MO) → MO → Option MO
  | [], m => some m
  | (i, x) :: l, m => bif iO i yes then some x else bif iO i no then aJa yes no l m else none
def aIh (i : Nat) : List (Nat × MO) → Bool
  | [] => false
  | (j, _) :: l => Nat.beq j i || aIh i l
def aIg (i : Nat) : List Stg → Bool
  | [] => true
  | s :: r => !(aIh i s.1) && aIg i r
def aFa (i : Nat) : Nat → List Stg → Bool
  | _, [] => true
  | 0, _ :: r => aIg i r
  | p + 1, s :: r => !(aIh i s.1) && aFa i p r
def aDp (m : Nat) : List Stg → Bool
  | [] => true
  | s :: r => s.1.all (fun x => Nat.blt x.1 m) && aDp m r

theorem aFb {S : Nat → Bool} {yes no : List Nat} (hS : Knows S yes no) : ∀ {l : List (Nat × MO)} {m x : MO}, aJa yes no l m = some x → uT S l m = x
  | [], m, x, h => by simpa [aJa, uT] using h
  | (i, y) :: l, m, x, h => by
    simp only [aJa] at h
    simp only [uT]
    cases hy : iO i yes with
    | true => rw [hy] at h; simp at h; simp [hS.y i hy, h]
    | false =>
      cases hn : iO i no with
      | true => rw [hy, hn] at h; simp at h; simp [hS.n i hn, aFb hS h]
      | false => rw [hy, hn] at h; simp at h

/-- An object of the state, where some operations are known to be done, and some not. -/
theorem og {S : Nat → Bool} {yes no : List Nat} {objs : List MO} {i : Nat} {l : List (Nat × MO)} {m x : MO} (hS : Knows S yes no) (h : objs[i]? = some (uT S l m)) (h2 : aJa yes no l m = some x) : objs[i]? = some x := by
  rw [h, aFb hS h2]

theorem aVi {i j : Nat} {S : Nat → Bool} (h : Nat.beq j i = false) : Sp i S j = S j := by simp [Sp, h]
theorem aJb {i : Nat} {S : Nat → Bool} : ∀ {l : List (Nat × MO)} {m : MO}, aIh i l = false → uT (Sp i S) l m = uT S l m
  | [], _, _ => rfl
  | (j, x) :: l, m, h => by
    simp only [aIh, Bool.or_eq_false_iff] at h
    simp only [uT, aVi h.1, aJb h.2]
theorem aGf {i : Nat} {S : Nat → Bool} : ∀ {obs : List Stg}, aIg i obs = true → kA (Sp i S) obs = kA S obs
  | [], _ => rfl
  | s :: r, h => by
    simp only [aIg, Bool.and_eq_true, Bool.not_eq_true'] at h
    simp only [kA, aJb h.1, aGf h.2]
theorem aDt {i : Nat} {S : Nat → Bool} : ∀ {p : Nat} {obs : List Stg}, aFa i p obs = true → ∀ {s : Stg} {x : MO}, obs[p]? = some s → uT (Sp i S) s.1 s.2 = x → kA (Sp i S) obs = (kA S obs).set p x
  | p, [], _, s, x, h, _ => by simp at h
  | 0, s0 :: r, ho, s, x, h, hx => by
    simp at h; subst h; subst hx
    simp only [kA, List.set_cons_zero]
    rw [aGf ho]
  | p + 1, s0 :: r, ho, s, x, h, hx => by
    simp only [aFa, Bool.and_eq_true, Bool.not_eq_true'] at ho
    simp only [kA, List.set_cons_succ, aJb ho.1]
    rw [aDt ho.2 (by simpa using h) hx]
theorem aMv {m : Nat} {S S' : Nat → Bool} (hS : ∀ j, j < m → S' j = S j) : ∀ {l : List (Nat × MO)} {x : MO}, (l.all fun x => Nat.blt x.1 m) = true → uT S' l x = uT S l x
  | [], _, _ => rfl
  | (j, y) :: l, x, h => by
    simp only [List.all_cons, Bool.and_eq_true] at h
    simp only [uT, hS j (aE h.1), aMv hS h.2]
theorem aKo {m : Nat} {S S' : Nat → Bool} (hS : ∀ j, j < m → S' j = S j) : ∀ {obs : List Stg}, aDp m obs = true → kA S' obs = kA S obs
  | [], _ => rfl
  | s :: r, h => by
    simp only [aDp, Bool.and_eq_true] at h
    simp only [kA, aMv hS h.1, aKo hS h.2]

/-- Tables that differ only in what is not done. -/
def aTx (no : List Nat) : Tab → Tab → Prop
  | [], [] => True
  | x :: l, x' :: l' => x.1 = x'.1 ∧ x.2.1 = x'.2.1 ∧ (iO x.2.1 no = true ∨ x.2.2 = x'.2.2) ∧ aTx no l l'
  | _, _ => False
def aPp (no : List Nat) : List (Nat × MO) → List (Nat × MO) → Prop
  | [], [] => True
  | x :: l, x' :: l' => x.1 = x'.1 ∧ (iO x.1 no = true ∨ x.2 = x'.2) ∧ aPp no l l'
  | _, _ => False
def aPo (no : List Nat) : List Stg → List Stg → Prop
  | [], [] => True
  | s :: r, s' :: r' => aPp no s.1 s'.1 ∧ s.2 = s'.2 ∧ aPo no r r'
  | _, _ => False

theorem aMi {no : List Nat} {S : Nat → Bool} {base : Nat → AV} (hS : ∀ j, iO j no = true → S j = false) : ∀ {t t' : Tab}, aTx no t t' → ∀ k, ov t S base k = ov t' S base k
  | [], [], _, k => rfl
  | (d, j, v) :: l, (d', j', v') :: l', h, k => by
    obtain ⟨h1, h2, h3, h4⟩ := h
    simp only at h1 h2 h3
    subst h1; subst h2
    have ih := aMi (base := base) hS h4 k
    unfold ov at ih ⊢
    simp only [find]
    cases hk : Nat.beq d k with
    | false => simpa using ih
    | true =>
      simp only [cond_true]
      rcases h3 with h3 | h3
      · rw [hS j h3]; rfl
      · rw [h3]
theorem aMu {no : List Nat} {S : Nat → Bool} (hS : ∀ j, iO j no = true → S j = false) : ∀ {l l' : List (Nat × MO)} {m : MO}, aPp no l l' → uT S l m = uT S l' m
  | [], [], _, _ => rfl
  | (j, x) :: l, (j', x') :: l', m, h => by
    obtain ⟨h1, h2, h3⟩ := h
    simp only at h1 h2
    subst h1
    simp only [uT, aMu hS h3]
    rcases h2 with h2 | h2
    · rw [hS j h2]; rfl
    · rw [h2]
theorem aKn {no : List Nat} {S : Nat → Bool} (hS : ∀ j, iO j no = true → S j = false) : ∀ {o o' : List Stg}, aPo no o o' → kA S o = kA S o'
  | [], [], _ => rfl
  | s :: r, s' :: r', h => by
    simp only [kA, aMu hS h.1, h.2.1, aKn hS h.2.2]

def aMs (i : Nat) : Tab → Bool
  | [] => true
  | x :: l => !(Nat.beq x.2.1 i) && aMs i l
theorem aMk {i : Nat} : ∀ {t : Tab}, aMs i t = true → ∀ {k j : Nat} {v : AV}, find t k = some (j, v) → Nat.beq j i = false
  | [], _, k, j, v, h => by simp [find] at h
  | (d0, j0, v0) :: l, hn, k, j, v, h => by
    simp only [aMs, Bool.and_eq_true, Bool.not_eq_true'] at hn
    simp only [find] at h
    cases hb : Nat.beq d0 k with
    | true => rw [hb] at h; simp at h; rw [← h.1]; exact hn.1
    | false => rw [hb] at h; exact aMk hn.2 (by simpa using h)
theorem aYy {i : Nat} {t : Tab} {S : Nat → Bool} {base : Nat → AV} (hn : aMs i t = true) (k : Nat) : ov t (Sp i S) base k = ov t S base k := by
  unfold ov
  cases hf : find t k with
  | none => rfl
  | some p =>
    obtain ⟨j, v⟩ := p
    simp only [aVi (aMk hn hf)]

theorem Knows.sp {S : Nat → Bool} {yes no : List Nat} {i : Nat} (h : Knows S yes no) (hn : iO i no = false) : Knows (Sp i S) (i :: yes) no := by
  refine ⟨fun j hj => ?_, fun j hj => ?_⟩
  · simp only [iO] at hj
    cases hb : Nat.beq i j with
    | true => have := Nat.eq_of_beq_eq_true hb; subst this; simp [Sp]
    | false => rw [hb] at hj; simp only [cond_false] at hj; simp [Sp, h.y j hj]
  · have : Nat.beq j i = false := by
      cases hb : Nat.beq j i with
      | false => rfl
      | true => have := Nat.eq_of_beq_eq_true hb; subst this; rw [hn] at hj; cases hj
    rw [aVi this]; exact h.n j hj
theorem Knows.tl {S : Nat → Bool} {yes no : List Nat} {i : Nat} (h : Knows S yes (i :: no)) : Knows S yes no := ⟨h.y, fun j hj => h.n j (by simp only [iO]; cases Nat.beq i j <;> simp [hj])⟩
theorem Knows.cons {S : Nat → Bool} {yes no : List Nat} {i : Nat} (h : Knows S yes no) (hi : S i = false) : ∀ j, iO j (i :: no) = true → S j = false := by
  intro j hj
  simp only [iO] at hj
  cases hb : Nat.beq i j with
  | true => have := Nat.eq_of_beq_eq_true hb; subst this; exact hi
  | false => rw [hb] at hj; exact h.n j (by simpa using hj)

/-- What one operation must show. -/
def aJw (P : Program) (n : Nat) (ops : Array Oper) (o : Oper) (tab : Mk → Tab) (base : Nat → AV) (obs : Mk → List Stg) (i : Nat) (X : Mk) (S : Nat → Bool) : Prop :=
  GStepP P n ops o ⟨ov (tab X) S base, kA S (obs X)⟩ (fun s => ∃ X', Ent s ⟨ov (tab X') (Sp i S) base, kA (Sp i S) (obs X')⟩)
/-- The steps of the operations before the tail. -/
def XSteps (P : Program) (n : Nat) (ops : Array Oper) (tab : Mk → Tab) (base : Nat → AV) (obs : Mk → List Stg) : List Oper → List (List Nat × List Nat) → Nat → Prop
  | [], _, _ => True
  | o :: l, yn, i => (∀ (X : Mk) (S : Nat → Bool), (∀ X, rH (tab X) = true) → S i = false → Knows S (yn.headD ([], [])).1 (i :: (yn.headD ([], [])).2) →
      aJw P n ops o tab base obs i X S) ∧ XSteps P n ops tab base obs l yn.tail (i + 1)

theorem XSteps.get {P : Program} {n : Nat} {ops : Array Oper} {tab : Mk → Tab} {base : Nat → AV} {obs : Mk → List Stg} : ∀ {l : List Oper} {yn : List (List Nat × List Nat)} {k : Nat}, XSteps P n ops tab base obs l yn k → ∀ {i : Nat} {o : Oper}, l[i]? = some o →
    ∀ (X : Mk) (S : Nat → Bool), (∀ X, rH (tab X) = true) → S (k + i) = false → Knows S (yn.getD i ([], [])).1 ((k + i) :: (yn.getD i ([], [])).2) →
      aJw P n ops o tab base obs (k + i) X S
  | [], _, _, _, i, o, h => by simp at h
  | _ :: _, yn, k, h, 0, o, ho => by
    simp at ho; subst ho
    have := h.1
    cases yn <;> simpa using this
  | _ :: l, yn, k, h, i + 1, o, ho => by
    have := h.2.get (i := i) (by simpa using ho)
    rw [show k + 1 + i = k + (i + 1) by omega] at this
    cases yn <;> simpa using this

section
variable {P : Program} {n : Nat} {st : St} {Q : Exit → St → Prop} {ops : Array Oper} {o : Oper}

theorem GStep.toP' {st1 st2 : St} (h : GStep P n ops o st1 st2) {Post : St → Prop} (hp : Post st2) : GStepP P n ops o st1 Post := by
  rcases h with ⟨hw, h⟩ | ⟨hw, d, ho, hd, rfl⟩
  · exact .inl ⟨hw, fun A M w0 a w hR K Q hK => h A M w0 a w hR K Q fun s a' w' e hR' => hK s a' w' (e ▸ hp) hR'⟩
  · exact .inr ⟨hw, d, ho, hd, hp⟩

def nob : MO := .box 0 0 []
theorem bAl {env : Nat → AV} {objs : List MO} : Ent ⟨env, objs⟩ ⟨env, objs ++ [nob]⟩ := by
  intro A M w0 n a w hR
  refine hR.change (Keeps.refl (fun _ _ => False) w) (fun _ _ h => h.elim) (fun b o _ hx => ?_) ?_ fun hm m hmm => ?_
  · rcases sI.1 hx with h | ⟨m, hm, hf⟩
    · exact h
    · simp at hm; subst hm; obtain ⟨_, h1, h2⟩ := hf; simp at h2
  · refine List.pairwise_append.2 ⟨hR.inv.sep, by simp, fun x hx y hy b o h1 h2 => ?_⟩
    simp at hy; subst hy; obtain ⟨_, h3, h4⟩ := h2; simp at h4
  · rcases List.mem_append.1 hmm with h | h
    · exact fJ (hR.inv.holds m h) (Keeps.refl (fun _ _ => False) w) (fun _ _ _ h => h) hm
    · simp at h; subst h
      exact ⟨[], trivial, fun j v h => by simp at h, fun j h => by simp at h⟩
theorem aQf {env : Nat → AV} {objs : List MO} : ∀ q, Ent ⟨env, objs⟩ ⟨env, objs ++ List.replicate q nob⟩
  | 0 => by simpa using Ent.refl _
  | q + 1 => by
    have := (aQf (env := env) (objs := objs) q).trans bAl
    rwa [List.append_assoc, ← List.replicate_succ'] at this

/-- An operation that fills a slot. -/
theorem bQ {tab : Mk → Tab} {base : Nat → AV} {obs : Mk → List Stg} {X : Mk} {S : Nat → Bool} {i d : Nat} {v : AV} (hf : find (tab X) d = some (i, v)) (hown : rH (tab X) = true) (hfree : aIg i (obs X) = true)
    (h : GStep P n ops o ⟨ov (tab X) S base, kA S (obs X)⟩ ⟨upd (ov (tab X) S base) d v, kA S (obs X)⟩) :
    aJw P n ops o tab base obs i X S := by
  refine h.toP' ⟨X, ?_⟩
  have : ov (tab X) (Sp i S) base = upd (ov (tab X) S base) d v := funext fun k => aJy hown hf k
  rw [this, aGf hfree]
  exact Ent.refl _

/-- One that changes an object. -/
theorem aBz {tab : Mk → Tab} {base : Nat → AV} {obs : Mk → List Stg} {X : Mk} {S : Nat → Bool} {yes no : List Nat} {i p : Nat} {s0 : Stg} {mo : MO} (hS : Knows S yes (i :: no)) (hno : iO i no = false) (hn : aMs i (tab X) = true) (ho : aFa i p (obs X) = true)
    (hp : (obs X)[p]? = some s0) (hm : aJa (i :: yes) no s0.1 s0.2 = some mo)
    (h : GStep P n ops o ⟨ov (tab X) S base, kA S (obs X)⟩ ⟨ov (tab X) S base, (kA S (obs X)).set p mo⟩) :
    aJw P n ops o tab base obs i X S := by
  refine h.toP' ⟨X, ?_⟩
  have : ov (tab X) (Sp i S) base = ov (tab X) S base := funext fun k => aYy hn k
  rw [this, aDt ho hp (aFb (hS.tl.sp hno) hm)]
  exact Ent.refl _

/-- One that fills a slot and changes an object, as is known. -/
theorem bCo {tab : Mk → Tab} {base : Nat → AV} {obs : Mk → List Stg} {X : Mk} {S : Nat → Bool} {yes no : List Nat} {i d p : Nat} {v : AV} {s0 : Stg} {mo : MO} (hS : Knows S yes (i :: no)) (hg : o.guard = none) (hno : iO i no = false)
    (hf : find (tab X) d = some (i, v)) (hown : rH (tab X) = true) (ho : aFa i p (obs X) = true) (hp : (obs X)[p]? = some s0) (hm : aJa (i :: yes) no s0.1 s0.2 = some mo)
    (h : Step P n o ⟨ov (tab X) S base, kA S (obs X)⟩ (fun s => Ent s ⟨upd (ov (tab X) S base) d v, (kA S (obs X)).set p mo⟩)) :
    aJw P n ops o tab base obs i X S := by
  refine .inl ⟨fun _ _ _ _ _ _ => by simp [Region.wanted, hg], fun A M w0 a w hR K Q hK => h A M w0 a w hR K Q fun s a' w' he hR' => hK s a' w' ⟨X, ?_⟩ hR'⟩
  have : ov (tab X) (Sp i S) base = upd (ov (tab X) S base) d v := funext fun k => aJy hown hf k
  rw [this, aDt ho hp (aFb (hS.tl.sp hno) hm)]
  exact he

/-- One that makes something: a slot, and an object. -/
theorem aDc {tab : Mk → Tab} {base : Nat → AV} {obs : Mk → List Stg} {X : Mk} {S : Nat → Bool} {yes no : List Nat} {i d p : Nat} {v : XV → AV} {s0 : XV → Stg} {mo : XV → MO} (hS : Knows S yes (i :: no)) (hi : S i = false) (hg : o.guard = none) (hno : iO i no = false)
    (hf : ∀ x, find (tab (aJl X i x)) d = some (i, v x)) (hown : ∀ X, rH (tab X) = true) (ho : ∀ X, aFa i p (obs X) = true) (hp : ∀ x, (obs (aJl X i x))[p]? = some (s0 x)) (hm : ∀ x, aJa (i :: yes) no (s0 x).1 (s0 x).2 = some (mo x))
    (hat : ∀ x, aTx (i :: no) (tab (aJl X i x)) (tab X)) (hao : ∀ x, aPo (i :: no) (obs (aJl X i x)) (obs X))
    (h : Step P n o ⟨ov (tab X) S base, kA S (obs X)⟩ (fun s => ∃ x, Ent s ⟨upd (ov (tab X) S base) d (v x), (kA S (obs X)).set p (mo x)⟩)) :
    aJw P n ops o tab base obs i X S := by
  refine .inl ⟨fun _ _ _ _ _ _ => by simp [Region.wanted, hg], fun A M w0 a w hR K Q hK => h A M w0 a w hR K Q ?_⟩
  rintro s a' w' ⟨x, he⟩ hR'
  refine hK s a' w' ⟨aJl X i x, ?_⟩ hR'
  have h1 : ov (tab (aJl X i x)) (Sp i S) base = upd (ov (tab X) S base) d (v x) := by
    funext k
    rw [show ov (tab (aJl X i x)) (Sp i S) base k = _ from aJy (hown _) (hf x) k]
    have : ov (tab (aJl X i x)) S base = ov (tab X) S base := funext fun k => aMi (hS.n) (hat x) k
    rw [this]
  rw [h1, aDt (ho _) (hp x) (aFb (hS.tl.sp hno) (hm x)), aKn (hS.n) (hao x)]
  exact he

/-- All that the part of a region without order must show. -/
def XOK (P : Program) (n : Nat) (l : List Oper) (m q : Nat) (tab : Mk → Tab) (obs : Mk → List Stg) (st : St) : Prop :=
  aEf l = true ∧ aAe (qD l l.length) m l.length = true ∧ Nat.ble m l.length = true ∧ (∀ X, rH (tab X) = true) ∧ (∀ X, ((tab X).all fun x => Nat.blt x.2.1 m) = true) ∧ (∀ X, aDp m (obs X) = true) ∧
    (∀ X, kA (fun _ => false) (obs X) = st.objs ++ List.replicate q nob) ∧
    ∃ yn, aRx (qD l l.length) m yn = true ∧ XSteps P n l.toArray tab st.env obs (l.take m) yn 0

theorem aZo {id : Nat} {l : List Oper} (hm : P.follows .mixedOrders = true) (m q : Nat) (tab : Mk → Tab) (obs : Mk → List Stg) (ks : List Nat) (us : Mk → List (Nat × AV)) (objs : Mk → List MO) (h : XOK P n l m q tab obs st)
    (he : ∀ X, Ent ⟨ov (tab X) (fun _ => true) st.env, kA (fun _ => true) (obs X)⟩ ⟨yY (keep ks st.env) (us X), objs X⟩)
    (htail : ∀ X, TrL P n l.toArray (l.drop m) ⟨yY (keep ks st.env) (us X), objs X⟩ Q) : Tr P n (.region id l.toArray true) st Q := by
  obtain ⟨h1, h2, h3, hw, h4, h5, h6, yn, h7, h8⟩ := h
  refine bO (aQf q) ?_
  have h0 : (⟨st.env, st.objs ++ List.replicate q nob⟩ : St) = ⟨ov (tab fun _ => ⟨0, undef⟩) (fun _ => false) st.env, kA (fun _ => false) (obs fun _ => ⟨0, undef⟩)⟩ := by
    rw [h6]
    congr 1
    funext k
    unfold ov
    cases find (tab fun _ => ⟨0, undef⟩) k <;> rfl
  refine aRw m (fun S st' => ∃ X, st' = ⟨ov (tab X) S st.env, kA S (obs X)⟩) hm h1 h2 h3 yn h7 ⟨_, h0⟩ ?_ ?_ ?_
  · rintro S S' st' hS ⟨X, rfl⟩
    refine ⟨X, ?_⟩
    rw [aKo hS (h5 X)]
    congr 1
    funext k
    unfold ov
    cases hf : find (tab X) k with
    | none => rfl
    | some p =>
      obtain ⟨j, v⟩ := p
      have hjm : j < m := aE (List.all_eq_true.1 (h4 X) _ (aCd hf))
      simp [hS j hjm]
  · rintro i o hoi S st' ⟨X, rfl⟩ hi hk
    have := h8.get hoi X S hw (by rw [Nat.zero_add]; exact hi) ⟨hk.y, by rw [Nat.zero_add]; exact hk.cons hi⟩
    rw [Nat.zero_add] at this
    rcases this with ⟨hw', h⟩ | ⟨hw', d, ho, hd, X', he'⟩
    · exact .inl ⟨hw', fun A M w0 a w hR K Q hK => h A M w0 a w hR K Q fun s a' w' ⟨X', he'⟩ hR' => hK s a' w' ⟨_, ⟨X', rfl⟩, he'⟩ hR'⟩
    · exact .inr ⟨hw', d, ho, hd, _, ⟨X', rfl⟩, he'⟩
  · rintro st' ⟨X, rfl⟩
    exact jD (he X) (htail X)

theorem qN {id : Nat} {l : List Oper} (hm : P.follows .mixedOrders = true) (m : Nat) (ks : List Nat) (us : Mk → List (Nat × AV)) (objs : Mk → List MO)
    (h : ∃ q tab obs, XOK P n l m q tab obs st ∧ ∀ X, Ent ⟨ov (tab X) (fun _ => true) st.env, kA (fun _ => true) (obs X)⟩ ⟨yY (keep ks st.env) (us X), objs X⟩)
    (htail : ∀ X, TrL P n l.toArray (l.drop m) ⟨yY (keep ks st.env) (us X), objs X⟩ Q) : Tr P n (.region id l.toArray true) st Q := by
  obtain ⟨q, tab, obs, h, he⟩ := h
  exact aZo hm m q tab obs ks us objs h he htail

theorem le_refl (e : Nat → AV) : Le e e := fun _ => .inr rfl
theorem tK {Post Post' : St → Prop} (h : Step P n o st Post) (hp : ∀ s, Post s → Post' s) : Step P n o st Post' := fun A M w0 a w hR K Q hK => h A M w0 a w hR K Q fun s a' w' hs hR' => hK s a' w' (hp s hs) hR'

end
end Go.Am
