/- The program logic 'Am': states, the relation to the machine, triples for operations, regions, code and calls. -/
import Derived.Test.YtikcmpflkibomaaAmCore
namespace Go.Am

structure St where
  env : Nat → AV
  objs : List MO

/-- env with slot k set. -/
def upd (e : Nat → AV) (k : Nat) (v : AV) : Nat → AV := fun n => bif Nat.beq k n then v else e n
def emp : Nat → AV := fun _ => .any
def memb (n : Nat) : List Nat → Bool
  | [] => false
  | k :: l => bif Nat.beq k n then true else memb n l
/-- only the slots of a list are known. -/
def keep (l : List Nat) (e : Nat → AV) : Nat → AV := fun n => bif memb n l then e n else .any

def St.set (st : St) (k : Nat) (v : AV) : St := ⟨upd st.env k v, st.objs⟩
def St.keep (st : St) (l : List Nat) : St := ⟨Am.keep l st.env, st.objs⟩
def St.obj (st : St) (objs : List MO) : St := ⟨st.env, objs⟩

theorem upd_same (e : Nat → AV) (k : Nat) (v : AV) : upd e k v k = v := by simp [upd]
theorem upd_ne (e : Nat → AV) {k n : Nat} (v : AV) (h : k ≠ n) : upd e k v n = e n := by
  have : Nat.beq k n = false := by
    cases hb : Nat.beq k n with
    | false => rfl
    | true => exact absurd (Nat.eq_of_beq_eq_true hb) h
  simp [upd, this]

structure R (A M : Zone) (w0 : World) (n : Nat) (st : St) (a : Act) (w : World) : Prop where
  size : a.tmps.size = n
  defers : a.defers = []
  env : ∀ k, VR w (live A st.objs) (st.env k) (a.tmps.getD k undef)
  inv : Inv w A st.objs
  keeps : Keeps M w0 w
  own : ∀ m ∈ st.objs, ∀ b o, m.foot b o → M b o ∨ w0.heap.size ≤ b
  old : ∀ b o, A b o → b < w0.heap.size

theorem mono_of_keeps {A Z : Zone} {w w' : World} {objs objs' : List MO} (hk : Keeps Z w w') (hz : ∀ b o, Z b o → live A objs b o)
    (hl : ∀ b o, b < w.heap.size → live A objs' b o → live A objs b o) : Mono w (live A objs) w' (live A objs') := by
  refine ⟨fun b o v hc hx => ?_, fun r ms c hc hx => ?_⟩
  · have hlt : b < w.heap.size := block_lt_of_cell hc
    exact ⟨by rw [hk.cell b o hlt fun h => hx (hz _ _ h)]; exact hc, fun h => hx (hl _ _ hlt h)⟩
  · have hlt : r < w.heap.size := (Array.getElem?_eq_some_iff.1 hc).1
    exact ⟨by rw [hk.block r hlt fun o h => hx o (hz _ _ h)]; exact hc, fun o h => hx o (hl _ _ hlt h)⟩

theorem feet_set {objs : List MO} {i : Nat} {m m' : MO} (h : objs[i]? = some m) (hf : ∀ b o, m'.foot b o → m.foot b o) {b o : Nat} (hx : feet (objs.set i m') b o) : feet objs b o := by
  obtain ⟨x, hx, hxf⟩ := hx
  rcases List.mem_or_eq_of_mem_set hx with h1 | rfl
  · exact ⟨x, h1, hxf⟩
  · exact ⟨m, List.mem_of_getElem? h, hf _ _ hxf⟩

/-- The slot's update in a frame. -/
theorem env_put {w : World} {X : Zone} {env : Nat → AV} {tmps : Array Value} {n d : Nat} (hs : tmps.size = n) (hd : d < n) {x : AV} {v : Value}
    (he : ∀ k, VR w X (env k) (tmps.getD k undef)) (hv : VR w X x v) : ∀ k, VR w X (upd env d x k) ((tmps.setIfInBounds d v).getD k undef) := by
  intro k
  by_cases hk : d = k
  · subst hk
    rw [upd_same, Array.getD_eq_getD_getElem?, Array.getElem?_setIfInBounds_self_of_lt (by omega)]
    exact hv
  · rw [upd_ne _ _ hk, Array.getD_eq_getD_getElem?, Array.getElem?_setIfInBounds_ne hk, ← Array.getD_eq_getD_getElem?]
    exact he k

theorem R.put {A M : Zone} {w0 : World} {n : Nat} {st : St} {a : Act} {w : World} (h : R A M w0 n st a w) {o : Oper} {d : Nat} (ho : o.dst = some d) (hd : d < n) {x : AV} {u : Value}
    (hv : VR w (live A st.objs) x u) : R A M w0 n (st.set d x) (a.put o.dst u) w := by
  rw [ho]
  exact ⟨by simp [Act.put, h.size], h.defers, env_put h.size hd h.env hv, h.inv, h.keeps, h.own, h.old⟩
theorem R.put_none {A M : Zone} {w0 : World} {n : Nat} {st : St} {a : Act} {w : World} (h : R A M w0 n st a w) {o : Oper} (ho : o.dst = none) {u : Value} : R A M w0 n st (a.put o.dst u) w := by
  rw [ho]
  exact h

/-- An operation from a state leads to states. -/
def Step (P : Program) (n : Nat) (o : Oper) (st : St) (Post : St → Prop) : Prop :=
  ∀ A M w0 a w, R A M w0 n st a w → ∀ K Q, (∀ st' a' w', Post st' → R A M w0 n st' a' w' → K a' w') → o.wp P a w K Q

abbrev Step1 (P : Program) (n : Nat) (o : Oper) (st st' : St) : Prop := Step P n o st (fun s => s = st')

/-- An operation that leaves memory as it is. -/
theorem step_pure {P : Program} {n : Nat} {o : Oper} {st : St} {d : Nat} {x : AV} (ho : o.dst = some d) (hd : d < n)
    (h : ∀ (A M : Zone) (w0 : World) (a : Act) (w : World), R A M w0 n st a w → ∃ u, (execOp a.eval o).run P w = .ok (.value u) w ∧ VR w (live A st.objs) x u) :
    Step1 P n o st (st.set d x) := by
  intro A M w0 a w hR K Q hK
  obtain ⟨u, hrun, hv⟩ := h A M w0 a w hR
  unfold Oper.wp
  rw [hrun, Oper.upon_value]
  refine hK _ _ _ rfl ?_
  exact hR.put ho hd hv

def St.eval (st : St) : Operand → AV
  | .tmp t => st.env t
  | .const v => .d (.lit v)
  | .global _ => .any
  | .func f => .fn f []

/-- A constant that is one cell. -/
theorem R.eval {A M : Zone} {w0 : World} {n : Nat} {st : St} {a : Act} {w : World} (h : R A M w0 n st a w) (t : Nat) :
    VR w (live A st.objs) (st.eval (.tmp t)) (a.eval (.tmp t)) := h.env t

/-- The value of an operand: constants must be of one cell. -/
def okOp : Operand → Bool
  | .const v => v.oneCell'
  | _ => true
theorem R.eval' {A M : Zone} {w0 : World} {n : Nat} {st : St} {a : Act} {w : World} (h : R A M w0 n st a w) {x : Operand} (hx : okOp x = true) :
    VR w (live A st.objs) (st.eval x) (a.eval x) := by
  cases x with
  | tmp t => exact h.env t
  | const v => exact .d (.lit v hx)
  | global g => exact .any _
  | func f => exact .fn (us := []) rfl (fun i hi => by simp at hi)

theorem VR.lit {w : World} {X : Zone} {v u : Value} (h : VR w X (.d (.lit v)) u) : u = v := by
  cases h with
  | d h => cases h; rfl

/-- Triples. -/
def TrL (P : Program) (n : Nat) (ops : Array Oper) (l : List Oper) (st : St) (Q : Exit → St → Prop) : Prop :=
  ∀ A M w0 a w, R A M w0 n st a w → wpList P ops (fun e a' w' => ∃ st', Q e st' ∧ R A M w0 n st' a' w') l a w

def Tr (P : Program) (n : Nat) (c : Code) (st : St) (Q : Exit → St → Prop) : Prop :=
  ∀ A M w0 a w, R A M w0 n st a w → c.wp P (fun e a' w' => ∃ st', Q e st' ∧ R A M w0 n st' a' w') a w

/-- The post of the first of two codes. -/
def thenQ (N : St → Prop) (Q : Exit → St → Prop) : Exit → St → Prop
  | .normal, st => N st
  | e, st => Q e st
def blockQ (id : Nat) (N : St → Prop) (Q : Exit → St → Prop) : Exit → St → Prop
  | .normal, st => N st
  | .exit id', st => (id' = id ∧ N st) ∨ (id' ≠ id ∧ Q (.exit id') st)
  | e, st => Q e st

section
variable {P : Program} {n : Nat} {st st' : St} {Q : Exit → St → Prop} {N : St → Prop}

theorem tr_op {ops : Array Oper} {o : Oper} {rest : List Oper} {Post : St → Prop} (hg : o.guard = none) (h : Step P n o st Post)
    (hr : ∀ st', Post st' → TrL P n ops rest st' Q) : TrL P n ops (o :: rest) st Q :=
  fun A M w0 a w hR => wpList_plain hg fun K hK => h A M w0 a w hR K _ fun st' a' w' hp hR' => hK _ _ (hr st' hp A M w0 a' w' hR')

theorem tr1 {ops : Array Oper} {o : Oper} {rest : List Oper} (hg : o.guard = none) (h : Step1 P n o st st')
    (hr : TrL P n ops rest st' Q) : TrL P n ops (o :: rest) st Q :=
  tr_op hg h fun _ e => e ▸ hr

theorem tr_nil {ops : Array Oper} (h : N st) : TrL P n ops [] st (thenQ N Q) :=
  fun _ _ _ _ _ hR => wpList_nil ⟨st, h, hR⟩
theorem tr_nilb {ops : Array Oper} {id : Nat} (h : N st) : TrL P n ops [] st (blockQ id N Q) :=
  fun _ _ _ _ _ hR => wpList_nil ⟨st, h, hR⟩

theorem tr_region {id : Nat} {l : List Oper} (h : TrL P n l.toArray l st Q) : Tr P n (.region id l.toArray false) st Q :=
  fun A M w0 a w hR => wp_region_lit (h A M w0 a w hR)

theorem tr_seq {x y : Code} (h : Tr P n x st (thenQ (fun s => Tr P n y s Q) Q)) : Tr P n (.seq x y) st Q := by
  intro A M w0 a w hR
  refine wp_seq (wp_mono (h A M w0 a w hR) ?_)
  rintro e a' w' ⟨st', hq, hR'⟩
  cases e with
  | normal => exact hq A M w0 a' w' hR'
  | _ => exact ⟨st', hq, hR'⟩

theorem tr_skip (h : N st) : Tr P n .skip st (thenQ N Q) := fun _ _ _ _ _ hR => wp_skip ⟨st, h, hR⟩
theorem tr_skip' (h : Q .normal st) : Tr P n .skip st Q := fun _ _ _ _ _ hR => wp_skip ⟨st, h, hR⟩
theorem tr_label {l : Nat} (h : Q .normal st) : Tr P n (.label l) st Q := fun _ _ _ _ _ hR => wp_label ⟨st, h, hR⟩
theorem tr_ret (h : Q .ret st) : Tr P n .ret st Q := fun _ _ _ _ _ hR => wp_ret ⟨st, h, hR⟩
theorem tr_exit {id : Nat} (h : Q (.exit id) st) : Tr P n (.exit id) st Q := fun _ _ _ _ _ hR => wp_exit ⟨st, h, hR⟩

theorem tr_block {id : Nat} {c : Code} (h : Tr P n c st (blockQ id N Q)) (hQ : ∀ s, N s → Q .normal s) : Tr P n (.block id c) st Q := by
  intro A M w0 a w hR
  refine wp_block (wp_mono (h A M w0 a w hR) ?_)
  rintro e a' w' ⟨st', hq, hR'⟩
  cases e with
  | normal => exact ⟨st', hQ _ hq, hR'⟩
  | exit id' =>
    show if id' = id then _ else _
    rcases hq with ⟨h1, h2⟩ | ⟨h1, h2⟩
    · rw [if_pos h1]; exact ⟨st', hQ _ h2, hR'⟩
    · rw [if_neg h1]; exact ⟨st', h2, hR'⟩
  | _ => exact ⟨st', hq, hR'⟩

theorem tr_mono {c : Code} {Q' : Exit → St → Prop} (h : Tr P n c st Q) (hq : ∀ e s, Q e s → Q' e s) : Tr P n c st Q' :=
  fun A M w0 a w hR => wp_mono (h A M w0 a w hR) fun _ _ _ ⟨s, h1, h2⟩ => ⟨s, hq _ _ h1, h2⟩

theorem tr_if {c : Operand} {x y : Code} {b : Bool} (hc : st.eval c = .d (.lit (.bool b))) (ht : b = true → Tr P n x st Q) (hf : b = false → Tr P n y st Q) :
    Tr P n (.cond c x y) st Q := by
  intro A M w0 a w hR
  have he : a.eval c = .bool b := by
    cases c with
    | tmp t => have := hR.env t; rw [show st.env t = _ from hc] at this; exact this.lit
    | const v => simp only [St.eval, AV.d.injEq, D.lit.injEq] at hc; exact hc
    | global g => cases hc
    | func f => cases hc
  exact wp_cond_split he (fun h => ht h A M w0 a w hR) (fun h => hf h A M w0 a w hR)

/-- One state says no more than another. -/
def Ent (st st' : St) : Prop := ∀ (A M : Zone) (w0 : World) (n : Nat) (a : Act) (w : World), R A M w0 n st a w → R A M w0 n st' a w
theorem Ent.refl (st : St) : Ent st st := fun _ _ _ _ _ _ h => h
theorem Ent.trans {a b c : St} (h : Ent a b) (k : Ent b c) : Ent a c := fun A M w0 n x w hR => k A M w0 n x w (h A M w0 n x w hR)
theorem tr_ent {c : Code} (he : Ent st st') (h : Tr P n c st' Q) : Tr P n c st Q := fun A M w0 a w hR => h A M w0 a w (he A M w0 n a w hR)
theorem trl_ent {ops : Array Oper} {l : List Oper} (he : Ent st st') (h : TrL P n ops l st' Q) : TrL P n ops l st Q := fun A M w0 a w hR => h A M w0 a w (he A M w0 n a w hR)

/-- A loop, by the fuel of a function that follows it. -/
theorem tr_loop {S T : Type} (σ : S → St) (F : Nat → S → Option T) (r : T) {c : Code} (hz : ∀ s, F 0 s = none)
    (body : ∀ k s, F (k + 1) s = some r → Tr P n c (σ s) (thenQ (fun st' => ∃ s', F k s' = some r ∧ Ent st' (σ s')) Q))
    (k0 : Nat) (s0 : S) (h0 : F k0 s0 = some r) : Tr P n (.loop c) (σ s0) Q := by
  intro A M w0 a w hR
  let I0 : Nat → Act → World → Prop := fun k a w => ∃ s, F k s = some r ∧ R A M w0 n (σ s) a w
  have ex : ∀ a w, (∃ k, I0 k a w) → ∃ k, I0 k a w ∧ ∀ j, I0 j a w → k ≤ j := by
    rintro a w ⟨k, hk⟩
    induction k using Nat.strongRecOn with
    | _ k ih =>
      by_cases h : ∃ j, j < k ∧ I0 j a w
      · obtain ⟨j, hj, hI⟩ := h
        exact ih j hj hI
      · refine ⟨k, hk, fun j hj => ?_⟩
        rcases Nat.lt_or_ge j k with h1 | h1
        · exact absurd ⟨j, h1, hj⟩ h
        · exact h1
  have hμ : ∃ μ : Act → World → Nat, ∀ a w, (∃ k, I0 k a w) → I0 (μ a w) a w ∧ ∀ j, I0 j a w → μ a w ≤ j := by
    classical
    refine ⟨fun a w => if h : ∃ k, I0 k a w then (ex a w h).choose else 0, fun a w h => ?_⟩
    simp only [h, dite_true]
    exact (ex a w h).choose_spec
  obtain ⟨μ, hμ⟩ := hμ
  refine wp_loop (fun a w => ∃ k, I0 k a w) μ ⟨k0, s0, h0, hR⟩ fun a w hI => ?_
  obtain ⟨⟨s, hs, hRs⟩, hmin⟩ := hμ a w hI
  cases hk : μ a w with
  | zero => rw [hk, hz] at hs; cases hs
  | succ k =>
    rw [hk] at hs
    refine wp_mono (body k s hs A M w0 a w hRs) ?_
    rintro e a' w' ⟨st', hq, hR'⟩
    cases e with
    | normal =>
      obtain ⟨s', hs', he⟩ := hq
      have hI' : I0 k a' w' := ⟨s', hs', he A M w0 n a' w' hR'⟩
      have hle := (hμ a' w' ⟨k, hI'⟩).2 k hI'
      exact ⟨⟨k, hI'⟩, by omega⟩
    | _ => exact ⟨st', hq, hR'⟩
end

/-- What a function does: with arguments that read so, and objects that it may change. -/
def ACalls (P : Program) (f : FuncId) (args : List AV) (objs : List MO) (Q : AV → List MO → Prop) : Prop :=
  ∀ (A : Zone) (w : World) (vs : List Value), Inv w A objs → (∀ b o, A b o → b < w.heap.size) → VRs w (live A objs) args vs →
    Calls P f vs.toArray w fun e w' => ∃ v r objs', e = .returned v ∧ Keeps (feet objs) w w' ∧ Inv w' A objs' ∧ VR w' (live A objs') r v ∧
      (∀ m ∈ objs', ∀ b o, m.foot b o → feet objs b o ∨ w.heap.size ≤ b) ∧ Q r objs'

/-- The slots at a function's entry. -/
def entry (args : List AV) : Nat → AV := fun k => args.getD k .any

/-- The results of a function, out of its slots. -/
inductive ResV (st : St) : List ResultVar → AV → Prop where
  | one (t : Nat) : ResV st [.tmp t] (st.env t)
  | two (t u : Nat) : ResV st [.tmp t, .tmp u] (.tup [st.env t, st.env u])
  | three (t u v : Nat) : ResV st [.tmp t, .tmp u, .tmp v] (.tup [st.env t, st.env u, st.env v])
  | none : ResV st [] (.tup [])

theorem acalls_of_tr {P : Program} {f : FuncId} {fn : Func} {c : Code} {args : List AV} {objs : List MO} {Q : AV → List MO → Prop}
    (hf : P.funcs[f]? = some fn) (hb : fn.body = some c) {rs : List ResultVar} (hr : fn.results = rs.toArray) (ha : args.length ≤ fn.ntmps)
    (h : Tr P fn.ntmps c ⟨entry args, objs⟩ (fun e st => (e = .ret ∨ e = .normal) ∧ ∃ r, ResV st rs r ∧ Q r st.objs)) : ACalls P f args objs Q := by
  intro A w vs hinv hA hvs
  refine calls_of_wp hf hb ?_
  have hlen := hvs.length
  have hR : R A (feet objs) w fn.ntmps ⟨entry args, objs⟩ { tmps := vs.toArray ++ Array.replicate (fn.ntmps - vs.toArray.size) undef, defers := [] } w := by
    refine ⟨?_, rfl, fun k => ?_, hinv, Keeps.refl _ _, fun m hm b o hf => .inl ⟨m, hm, hf⟩, hA⟩
    · simp; omega
    · have := hvs.getD k
      show VR _ _ (args.getD k .any) _
      rw [Array.getD_eq_getD_getElem?]
      by_cases hk : k < vs.length
      · rw [Array.getElem?_append_left (by simpa using hk)]
        simpa [List.getD] using this
      · have : args.getD k .any = .any := by simp [List.getD, List.getElem?_eq_none (show args.length ≤ k by omega)]
        rw [this]; exact .any _
  refine wp_mono (h A (feet objs) w _ _ hR) ?_
  rintro e a' w' ⟨st, ⟨he, r, hres, hq⟩, hR'⟩
  have key : ∃ v, (results fn a'.tmps).run P w' = .ok v w' ∧ VR w' (live A st.objs) r v := by
    cases hres with
    | one t => exact ⟨_, results_tmp hr _ _ _, hR'.env t⟩
    | two t u => exact ⟨_, results_tmp2 hr _ _ _, .tup (us := [_, _]) rfl fun i hi => by
        match i, hi with
        | 0, _ => exact hR'.env t
        | 1, _ => exact hR'.env u⟩
    | three t u v => exact ⟨.tuple #[a'.tmps.getD t undef, a'.tmps.getD u undef, a'.tmps.getD v undef], by simp [results, hr], .tup (us := [_, _, _]) rfl fun i hi => by
        match i, hi with
        | 0, _ => exact hR'.env t
        | 1, _ => exact hR'.env u
        | 2, _ => exact hR'.env v⟩
    | none => exact ⟨_, results_none hr _ _ _, .tup (us := []) rfl fun i hi => by simp at hi⟩
  obtain ⟨v, hrun, hv⟩ := key
  rcases he with rfl | rfl
  · exact ⟨hR'.defers, v, hrun, v, r, st.objs, rfl, hR'.keeps, hR'.inv, hv, hR'.own, hq⟩
  · exact ⟨hR'.defers, v, hrun, v, r, st.objs, rfl, hR'.keeps, hR'.inv, hv, hR'.own, hq⟩

end Go.Am
