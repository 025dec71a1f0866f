/- The program logic 'Am': results that lie in cells. -/
import Derived.Test.YtikcmpflkibomaaAmDraw2
import Derived.Scope
import Derived.Lib.SliceRun
namespace Go.Am

theorem run_loadVar_agg {P : Program} {t : TypeId} {m : Nat} (ht : IsAgg P t m) {w : World} {b o : Nat} {vs : List Value} (hl : vs.length = m) (h : cellsAt w b o vs) :
    (loadVar t ⟨b, o, none⟩).run P w = .ok (.agg vs.toArray) w := by
  subst hl
  have := run_loadCells_list (P := P) w ⟨b, o, none⟩ vs fun j v hj => by rw [Addr.add_lit]; exact h j v hj
  simp [loadVar, ht.1, ht.2, this]

/-- What one result variable reads as. -/
inductive RVc (P : Program) (st : St) : ResultVar → AV → Prop where
  | tmp (t : Nat) {v : AV} (h : st.env t = v) : RVc P st (.tmp t) v
  | cell (a : Nat) (t : TypeId) {b o j i m : Nat} {ds es : List D} (ha : st.env a = .bp b o j) (ho : st.objs[i]? = some (.box b o ds)) (ht : IsAgg P t m) (he : (ds.drop j).take m = es) (hl : es.length = m) : RVc P st (.cell a t) (.agg es)

def readVar (tmps : Array Value) : ResultVar → Sem Value
  | .tmp t => pure (tmps.getD t undef)
  | .cell a t => do loadVar t (← asAddr (tmps.getD a undef))

theorem RVc.run {P : Program} {st : St} {x : ResultVar} {r : AV} (h : RVc P st x r) {A M : Zone} {w0 : World} {n : Nat} {a : Act} {w : World} (hR : R A M w0 n st a w) :
    ∃ v, (readVar a.tmps x).run P w = .ok v w ∧ VR w (live A st.objs) r v := by
  cases h with
  | tmp t h => exact ⟨_, rfl, h ▸ hR.env t⟩
  | @cell p t b o j i m ds es ha ho ht he hl =>
    have h := hR.env p
    rw [ha] at h
    generalize hu : a.tmps.getD p undef = u at h
    obtain ⟨vs, hds, hc, _⟩ := hR.inv.holds _ (List.mem_of_getElem? ho)
    have hdt := (hds.drop j).take m
    cases h with
    | bp =>
      subst he
      refine ⟨.agg ((vs.drop j).take m).toArray, ?_, .agg (by simpa using hdt)⟩
      simp [readVar, hu, asAddr, run_loadVar_agg ht (vs := (vs.drop j).take m) (by rw [hdt.length, hl]) ((hc.drop j).take m)]

inductive ResW (P : Program) (st : St) : List ResultVar → AV → Prop where
  | one {x : ResultVar} {r : AV} (h : RVc P st x r) : ResW P st [x] r
  | two {x y : ResultVar} {r s : AV} (h : RVc P st x r) (h2 : RVc P st y s) : ResW P st [x, y] (.tup [r, s])
  | three {x y z : ResultVar} {r s t : AV} (h : RVc P st x r) (h2 : RVc P st y s) (h3 : RVc P st z t) : ResW P st [x, y, z] (.tup [r, s, t])
  | none : ResW P st [] (.tup [])

theorem results_def (fn : Func) (tmps : Array Value) : results fn tmps = (do
    let vs ← fn.results.mapM (readVar tmps)
    pure (if h : vs.size = 1 then vs[0] else .tuple vs)) := by
  unfold results
  have : (fun x : ResultVar => readVar tmps x) = readVar tmps := rfl
  congr 1

theorem results_read' {fn : Func} {rs : List ResultVar} (hr : fn.results = rs.toArray) {P : Program} {st : St} {r : AV} (h : ResW P st rs r) {A M : Zone} {w0 : World} {n : Nat} {a : Act} {w : World} (hR : R A M w0 n st a w) :
    ∃ v, (results fn a.tmps).run P w = .ok v w ∧ VR w (live A st.objs) r v := by
  cases h with
  | one h =>
    obtain ⟨v, h1, h2⟩ := h.run hR
    refine ⟨v, ?_, h2⟩
    rw [results_def, hr]
    simp [h1]
  | two h k =>
    obtain ⟨v, h1, h2⟩ := h.run hR
    obtain ⟨u, k1, k2⟩ := k.run hR
    refine ⟨.tuple #[v, u], ?_, .tup (us := [_, _]) rfl fun i hi => by
        match i, hi with
        | 0, _ => exact h2
        | 1, _ => exact k2⟩
    rw [results_def, hr]
    simp [h1, k1]
  | three h k l =>
    obtain ⟨v, h1, h2⟩ := h.run hR
    obtain ⟨u, k1, k2⟩ := k.run hR
    obtain ⟨x, l1, l2⟩ := l.run hR
    refine ⟨.tuple #[v, u, x], ?_, .tup (us := [_, _, _]) rfl fun i hi => by
        match i, hi with
        | 0, _ => exact h2
        | 1, _ => exact k2
        | 2, _ => exact l2⟩
    rw [results_def, hr]
    simp [h1, k1, l1]
  | none =>
    refine ⟨.tuple #[], ?_, .tup (us := []) rfl fun i hi => by simp at hi⟩
    rw [results_def, hr]
    simp

theorem acalls_of_trw {P : Program} {f : FuncId} {fn : Func} {c : Code} {args : List AV} {objs objs' : List MO} {r : AV} (hf : P.funcs[f]? = some fn) (hb : fn.body = some c) {rs : List ResultVar} (hr : fn.results = rs.toArray) {n : Nat} (hn : fn.ntmps = n) (ha : args.length ≤ n)
    (h : Tr P n c ⟨entry args, objs⟩ (fun e st => e = .ret ∧ ∃ r0 gone, ResW P st rs r0 ∧ st.objs.Perm (objs' ++ gone) ∧ BV gone r0 r)) : ACalls P f args objs (fun r' o => r' = r ∧ o = objs') := by
  subst hn
  intro A w vs hinv hA hvs
  refine calls_of_wp hf hb ?_
  have hlen := hvs.length
  have hR : R A (feet objs) w fn.ntmps ⟨entry args, objs⟩ { tmps := vs.toArray ++ Array.replicate (fn.ntmps - vs.toArray.size) undef, defers := [] } w := by
    refine ⟨?_, rfl, fun k => ?_, hinv, Keeps.refl _ _, fun m hm b o hf => .inl ⟨m, hm, hf⟩, hA⟩
    · simp; omega
    · have := hvs.getD k
      show VR _ _ (args.getD k .any) _
      rw [Array.getD_eq_getD_getElem?]
      by_cases hk : k < vs.length
      · rw [Array.getElem?_append_left (by simpa using hk)]
        simpa [List.getD] using this
      · have : args.getD k .any = .any := by simp [List.getD, List.getElem?_eq_none (show args.length ≤ k by omega)]
        rw [this]; exact .any _
  refine wp_mono (h A (feet objs) w _ _ hR) ?_
  rintro e a' w' ⟨st, ⟨rfl, r0, gone, hres, hp, hbv⟩, hR'⟩
  obtain ⟨v, hrun, hv⟩ := results_read' hr hres hR'
  have hR1 : R A (feet objs) w 1 ⟨upd emp 0 r0, st.objs⟩ { tmps := #[v], defers := [] } w' := by
    refine ⟨rfl, rfl, fun k => ?_, hR'.inv, hR'.keeps, hR'.own, hR'.old⟩
    show VR _ _ (upd emp 0 r0 k) _
    by_cases hk : 0 = k
    · subst hk; rw [upd_same]; exact hv
    · rw [upd_ne _ _ hk]; exact .any _
  have hR2 := ent_freeze (env' := upd emp 0 r) hp (fun k => by
    by_cases hk : 0 = k
    · subst hk; rw [upd_same, upd_same]; exact hbv
    · rw [upd_ne _ _ hk, upd_ne _ _ hk]; exact .any _) A (feet objs) w 1 _ w' hR1
  have hv2 : VR w' (live A objs') (upd emp 0 r 0) v := hR2.env 0
  rw [upd_same] at hv2
  exact ⟨hR'.defers, v, hrun, v, r, objs', rfl, hR2.keeps, hR2.inv, hv2, hR2.own, rfl, rfl⟩

/-- A nil slice is one of the call's own. -/
theorem ent_nilarr (e k : Nat) {env : Nat → AV} {objs : List MO} : Ent ⟨env, objs⟩ ⟨env, objs ++ [.arr (.slice none 0 0) e k []]⟩ := by
  intro A M w0 n a w hR
  exact hR.add (w' := w) (m := .arr (.slice none 0 0) e k []) (Keeps.refl _ _) (fun b o hf => by simp [MO.foot, Value.ownBlock] at hf)
    (fun hm => ⟨[], trivial, ⟨by simp, .inl ⟨rfl, rfl⟩⟩, by simp⟩)


section
variable {P : Program} {n d : Nat} {st : St} {o : Oper}
/-- A call whose result is data: its arguments may be read as something weaker. -/
theorem s_callfb {c : Callee} {l : List Operand} {f : FuncId} {args args' : List AV} {r : AV} {ts : Array TypeId} {ty : TypeId} {pos : String} {af : Array Edge} {gd : Option (Nat × Bool)} (hd : d < n)
    {a0 : List AV} (hc : Callee' P st c l f a0) (ha : a0 = args) (hok : okOps l = true) (hb : BVs [] args args') (hf : Fn P f args' r) :
    Step1 P n ⟨some d, .call { callee := c, args := l.toArray, argTypes := ts }, ty, pos, af, gd⟩ st (st.set d r) := by
  refine s_callf hd hc ha hok ?_
  intro A w vs hinv hA hvs
  exact hf A w vs hinv hA (hb.sound (fun m hm => by simp at hm) (fun _ _ h => h) (fun m hm => by simp at hm) hvs)

/-- Something read as something weaker. -/
theorem s_weak {x y : AV} (hw : BV [] x y) (h : Step1 P n o st (st.set d x)) : Step1 P n o st (st.set d y) := by
  intro A M w0 a w hR K Q hK
  refine h A M w0 a w hR K Q ?_
  rintro s a' w' rfl hR'
  refine hK _ _ _ rfl ?_
  have := ent_freeze (env := upd st.env d x) (env' := upd st.env d y) (objs := st.objs) (keepers := st.objs) (gone := []) (by simp) (fun k => by
    by_cases hk : d = k
    · subst hk; rw [upd_same, upd_same]; exact hw
    · rw [upd_ne _ _ hk, upd_ne _ _ hk]; exact .same _)
  exact this A M w0 n a' w' hR'
end

theorem ble_refl (fs : List MO) (e : Nat → AV) : BLe fs e e := fun _ => .same _
theorem ble_at {fs : List MO} {e e' : Nat → AV} {k : Nat} {v v' : AV} (hv : BV fs v v') (h : BLe fs e e') : BLe fs (upd e k v) (upd e' k v') := by
  intro j
  by_cases hj : k = j
  · subst hj; rw [upd_same, upd_same]; exact hv
  · rw [upd_ne _ _ hj, upd_ne _ _ hj]; exact h j
/-- The last objects are let go. -/
theorem ent_let {env env' : Nat → AV} {objs : List MO} (keepers gone : List MO) (ho : objs = keepers ++ gone) (h : BLe gone env env') : Ent ⟨env, objs⟩ ⟨env', keepers⟩ := ent_freeze (ho ▸ List.Perm.refl _) h
theorem dv_arr0 {v : Value} {e k : Nat} {rows : List (List D)} (hk : ∀ r ∈ rows, r.length = k) : DV [.arr v e k rows] (.lit v) (.sl k rows) :=
  .arr v e k rows rows (by simp) rfl hk fun _ _ _ _ => .same _


theorem evals_lits {A M : Zone} {w0 : World} {n : Nat} {st : St} {a : Act} {w : World} (hR : R A M w0 n st a w) {k : IntKind} : ∀ {l : List Operand} {ps : List Int}, st.evals l = ps.map (fun p => .d (.lit (.int k p))) → l.map a.eval = ps.map (fun p => .int k p)
  | [], [], _ => rfl
  | x :: l, p :: ps, h => by
    simp only [St.evals, List.map_cons, List.cons.injEq] at h ⊢
    exact ⟨hR.lit h.1, evals_lits hR h.2⟩
  | [], _ :: _, h => by simp [St.evals] at h
  | _ :: _, [], h => by simp [St.evals] at h

section
variable {P : Program} {n d : Nat} {st : St}
theorem run_maxs {k : IntKind} {w : World} : ∀ (ps : List Int) (p : Int), (List.foldlM Builtin.max2 (.int k p) (ps.map (fun p => Value.int k p))).run P w = .ok (.int k (ps.foldl max p)) w
  | [], p => rfl
  | q :: ps, p => by
    have : (if q > p then q else p) = max p q := by simp only [Int.max_def]; split <;> split <;> omega
    simp [Builtin.max2, this, run_maxs ps]
theorem run_mins {k : IntKind} {w : World} : ∀ (ps : List Int) (p : Int), (List.foldlM Builtin.min2 (.int k p) (ps.map (fun p => Value.int k p))).run P w = .ok (.int k (ps.foldl min p)) w
  | [], p => rfl
  | q :: ps, p => by
    have : (if q < p then q else p) = min p q := by simp only [Int.min_def]; split <;> split <;> omega
    simp [Builtin.min2, this, run_mins ps]
theorem s_maxs {x : Operand} {l : List Operand} {k : IntKind} {p : Int} (ps : List Int) {ts : Array TypeId} {ty : TypeId} {pos : String} {af : Array Edge} {gd : Option (Nat × Bool)} (hd : d < n)
    (hx : st.eval x = .d (.lit (.int k p))) (hl : st.evals l = ps.map (fun p => .d (.lit (.int k p)))) :
    Step1 P n ⟨some d, .call { callee := .builtin .max, args := (x :: l).toArray, argTypes := ts }, ty, pos, af, gd⟩ st (st.set d (.d (.lit (.int k (ps.foldl max p))))) :=
  step_val rfl hd rfl fun A M w0 a w hR => by
    simp [execOp, resolve, hR.lit hx, evals_lits hR hl, invoke, builtin, Builtin.max_, run_maxs]
theorem s_mins {x : Operand} {l : List Operand} {k : IntKind} {p : Int} (ps : List Int) {ts : Array TypeId} {ty : TypeId} {pos : String} {af : Array Edge} {gd : Option (Nat × Bool)} (hd : d < n)
    (hx : st.eval x = .d (.lit (.int k p))) (hl : st.evals l = ps.map (fun p => .d (.lit (.int k p)))) :
    Step1 P n ⟨some d, .call { callee := .builtin .min, args := (x :: l).toArray, argTypes := ts }, ty, pos, af, gd⟩ st (st.set d (.d (.lit (.int k (ps.foldl min p))))) :=
  step_val rfl hd rfl fun A M w0 a w hR => by
    simp [execOp, resolve, hR.lit hx, evals_lits hR hl, invoke, builtin, Builtin.min_, run_mins]
end


/-- A scope that no jump runs through. -/
def NoGoto (Q : Exit → St → Prop) : Prop := ∀ l s, ¬ Q (.goto l) s
theorem ng_then {N : St → Prop} {Q : Exit → St → Prop} (h : NoGoto Q) : NoGoto (thenQ N Q) := fun l s hq => h l s hq
theorem ng_block {id : Nat} {N : St → Prop} {Q : Exit → St → Prop} (h : NoGoto Q) : NoGoto (blockQ id N Q) := fun l s hq => h l s hq
theorem ng_ret {p : St → Prop} : NoGoto (fun e s => e = .ret ∧ p s) := fun l s hq => by cases hq.1
theorem tr_scope {P : Program} {n : Nat} {st : St} {c : Code} {Q : Exit → St → Prop} (hg : NoGoto Q) (h : Tr P n c st Q) : Tr P n (.scope c) st Q := by
  intro A M w0 a w hR
  refine wp_scope_straight (wp_mono (h A M w0 a w hR) ?_)
  rintro e a' w' ⟨st', hq, hR'⟩
  cases e with
  | goto l => exact absurd hq (hg l st')
  | _ => exact ⟨st', hq, hR'⟩


/-- A slice that may be nil. -/
def encO {α : Type} (k : Nat) (f : α → List D) : Option (List α) → D
  | none => .lit (.slice none 0 0)
  | some xs => .sn k (xs.map f)
theorem dv_opt {fs : List MO} {α : Type} {k : Nat} {f : α → List D} (e : Option (List α)) : DV fs (encO k f e) (.sl k ((e.getD []).map f)) := by
  cases e with
  | none => exact .nil k
  | some xs => exact .weak k _
section
variable {P : Program} {n d : Nat} {st : St}
theorem s_isnil {α : Type} {k : Nat} {f : α → List D} {e : Option (List α)} {x : Operand} {t u el ty : TypeId} {pos : String} {af : Array Edge} {gd : Option (Nat × Bool)} (hd : d < n)
    (hx : st.eval x = .d (encO k f e)) (ht : P.underlying t = some (.slice el)) :
    Step1 P n ⟨some d, .binOp .eql t x (.const (.slice none 0 0)) u, ty, pos, af, gd⟩ st (st.set d (.b e.isNone)) :=
  step_val rfl hd rfl fun A M w0 a w hR => by
    have hk : okOp x = true := by
      cases x with
      | const v =>
        cases e with
        | none => simp only [St.eval, encO, AV.d.injEq, D.lit.injEq] at hx; subst hx; rfl
        | some xs => cases hx
      | _ => rfl
    have h := hR.eval' hk
    rw [hx] at h
    generalize hu : a.eval x = v at h
    cases h with
    | d h =>
      cases e with
      | none =>
        cases h with
        | lit _ _ =>
          have hb := Lib.run_eql_slice_nil (P := P) w t el none 0 0 0 0 ht
          have hg : eqGuard .eql t x (.const (.slice none 0 0)) (.slice none 0 0) (.slice none 0 0) = pure () := rfl
          have hc : a.eval (.const (.slice none 0 0)) = .slice none 0 0 := rfl
          simp only [execOp, hu, hc, Sem.run_bind, Sem.run_pure, hg, hb, Result.andThen_ok]
          rfl
      | some xs =>
        have key : ∀ (ad : Addr) (m cap : Nat), v = .slice (some ad) m cap → (execOp a.eval ⟨some d, .binOp .eql t x (.const (.slice none 0 0)) u, ty, pos, af, gd⟩).run P w = .ok (.value (.bool false)) w := by
          rintro ad m cap rfl
          have hb := Lib.run_eql_slice_nil (P := P) w t el (some ad) m cap 0 0 ht
          have hg : eqGuard .eql t x (.const (.slice none 0 0)) (.slice (some ad) m cap) (.slice none 0 0) = pure () := rfl
          have hc : a.eval (.const (.slice none 0 0)) = .slice none 0 0 := rfl
          simp only [execOp, hu, hc, Sem.run_bind, Sem.run_pure, hg, hb, Result.andThen_ok]
          rfl
        have h2 : DR w (live A st.objs) (D.sn k (xs.map f)) v := h
        generalize hd' : D.sn k (xs.map f) = dd at h2
        cases h2 with
        | e1 _ a => exact key _ _ _ rfl
        | sn _ _ b o cap f' => exact key _ _ _ rfl
        | _ => cases hd'
end

end Go.Am
