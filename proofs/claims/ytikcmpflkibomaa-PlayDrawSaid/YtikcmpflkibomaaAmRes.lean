/- The program logic 'Am': results that lie in cells. -/
import Derived.Test.YtikcmpflkibomaaAmDraw2
import Derived.Scope
import Derived.Lib.SliceRun
namespace Go.Am

theorem aCx {P : Program} {t : TypeId} {m : Nat} (ht : lQ P t m) {w : World} {b o : Nat} {vs : List Value} (hl : vs.length = m) (h : cellsAt w b o vs) :
    (loadVar t ⟨b, o, none⟩).run P w = .ok (.agg vs.toArray) w := by
  subst hl
  have := run_loadCells_list (P := P) w ⟨b, o, none⟩ vs fun j v hj => by rw [Addr.add_lit]; exact h j v hj
  simp [loadVar, ht.1, ht.2, this]

/-- What one result variable reads as. -/
inductive RVc (P : Program) (st : St) : ResultVar → AV → Prop where
  | tmp (t : Nat) {v : AV} (h : st.env t = v) : RVc P st (.tmp t) v
  | cell (a : Nat) (t : TypeId) {b o j i m : Nat} {ds es : List D} (ha : st.env a = .bp b o j) (ho : st.objs[i]? = some (.box b o ds)) (ht : lQ P t m) (he : (ds.drop j).take m = es) (hl : es.length = m) : RVc P st (.cell a t) (.agg es)

def wO (tmps : Array Value) : ResultVar → Sem Value
  | .tmp t => pure (tmps.getD t undef)
  | .cell a t => do loadVar t (← asAddr (tmps.getD a undef))

theorem RVc.run {P : Program} {st : St} {x : ResultVar} {r : AV} (h : RVc P st x r) {A M : cM} {w0 : W0} {n : Nat} {a : Act} {w : World} (hR : R A M w0 n st a w) :
    ∃ v, (wO a.tmps x).run P w = .ok v w ∧ VR w (cO A st.objs) r v := by
  cases h with
  | tmp t h => exact ⟨_, rfl, h ▸ hR.env t⟩
  | @cell p t b o j i m ds es ha ho ht he hl =>
    have h := hR.env p
    rw [ha] at h
    generalize hu : a.tmps.getD p undef = u at h
    obtain ⟨vs, hds, hc, _⟩ := hR.inv.holds _ (List.mem_of_getElem? ho)
    have hdt := (hds.drop j).take m
    cases h with
    | bp =>
      subst he
      refine ⟨.agg ((vs.drop j).take m).toArray, ?_, .agg (by simpa using hdt)⟩
      simp [wO, hu, asAddr, aCx ht (vs := (vs.drop j).take m) (by rw [hdt.length, hl]) ((hc.drop j).take m)]

inductive sX (P : Program) (st : St) : List ResultVar → AV → Prop where
  | one {x : ResultVar} {r : AV} (h : RVc P st x r) : sX P st [x] r
  | two {x y : ResultVar} {r s : AV} (h : RVc P st x r) (h2 : RVc P st y s) : sX P st [x, y] (.tup [r, s])
  | three {x y z : ResultVar} {r s t : AV} (h : RVc P st x r) (h2 : RVc P st y s) (h3 : RVc P st z t) : sX P st [x, y, z] (.tup [r, s, t])
  | none : sX P st [] (.tup [])

theorem sC (fn : Func) (tmps : Array Value) : results fn tmps = (do
    let vs ← fn.results.mapM (wO tmps)
    pure (if h : vs.size = 1 then vs[0] else .tuple vs)) := by
  unfold results
  have : (fun x : ResultVar => wO tmps x) = wO tmps := rfl
  congr 1

theorem yC {fn : Func} {rs : List ResultVar} (hr : fn.results = rs.toArray) {P : Program} {st : St} {r : AV} (h : sX P st rs r) {A M : cM} {w0 : W0} {n : Nat} {a : Act} {w : World} (hR : R A M w0 n st a w) :
    ∃ v, (results fn a.tmps).run P w = .ok v w ∧ VR w (cO A st.objs) r v := by
  cases h with
  | one h =>
    obtain ⟨v, h1, h2⟩ := h.run hR
    refine ⟨v, ?_, h2⟩
    rw [sC, hr]
    simp [h1]
  | two h k =>
    obtain ⟨v, h1, h2⟩ := h.run hR
    obtain ⟨u, k1, k2⟩ := k.run hR
    refine ⟨.tuple #[v, u], ?_, .tup (us := [_, _]) rfl fun i hi => by
        match i, hi with
        | 0, _ => exact h2
        | 1, _ => exact k2⟩
    rw [sC, hr]
    simp [h1, k1]
  | three h k l =>
    obtain ⟨v, h1, h2⟩ := h.run hR
    obtain ⟨u, k1, k2⟩ := k.run hR
    obtain ⟨x, l1, l2⟩ := l.run hR
    refine ⟨.tuple #[v, u, x], ?_, .tup (us := [_, _, _]) rfl fun i hi => by
        match i, hi with
        | 0, _ => exact h2
        | 1, _ => exact k2
        | 2, _ => exact l2⟩
    rw [sC, hr]
    simp [h1, k1, l1]
  | none =>
    refine ⟨.tuple #[], ?_, .tup (us := []) rfl fun i hi => by simp at hi⟩
    rw [sC, hr]
    simp

theorem jA {P : Program} {f : FuncId} {fn : Func} {c : Code} {args : List AV} {objs : List MO} {Q : AV → List MO → Prop} (hf : P.funcs[f]? = some fn) (hb : fn.body = some c) {rs : List ResultVar} (hr : fn.results = rs.toArray) {n : Nat} (hn : fn.ntmps = n) (ha : args.length ≤ n)
    (h : Tr P n c ⟨entry args, objs⟩ (fun e st => e = .ret ∧ ∃ r0 objs' gone r, sX P st rs r0 ∧ st.objs.Perm (objs' ++ gone) ∧ BV gone r0 r ∧ Q r objs')) : fI P f args objs Q := by
  subst hn
  intro A w vs hinv hA hvs
  refine vS hf hb ha h hinv hA hvs (fun e st hq => .inl hq.1) ?_
  rintro e st a' w' ⟨rfl, r0, objs', gone, r, hres, hp, hbv, hq⟩ hR'
  obtain ⟨v, hrun, hv⟩ := yC hr hres hR'
  have hR1 : R A (gT objs) ⟨w, [], none⟩ 1 ⟨upd emp 0 r0, st.objs⟩ { tmps := #[v], defers := [] } w' := by
    refine ⟨rfl, Marks.nil _ ⟨w, [], none⟩ _, fun k => ?_, hR'.inv, hR'.keeps, hR'.own, hR'.old⟩
    show VR _ _ (upd emp 0 r0 k) _
    by_cases hk : 0 = k
    · subst hk; rw [iQ]; exact hv
    · rw [nE _ _ hk]; exact .any _
  have hR2 := oV (env' := upd emp 0 r) hp (fun k => by
    by_cases hk : 0 = k
    · subst hk; rw [iQ, iQ]; exact hbv
    · rw [nE _ _ hk, nE _ _ hk]; exact .any _) A (gT objs) ⟨w, [], none⟩ 1 _ w' hR1
  have hv2 : VR w' (cO A objs') (upd emp 0 r 0) v := hR2.env 0
  rw [iQ] at hv2
  exact ⟨v, hrun, v, r, objs', rfl, hR2.keeps, hR2.inv, hv2, hR2.own, hq⟩
theorem sY {P : Program} {f : FuncId} {fn : Func} {c : Code} {args : List AV} {objs objs' : List MO} {r : AV} (hf : P.funcs[f]? = some fn) (hb : fn.body = some c) {rs : List ResultVar} (hr : fn.results = rs.toArray) {n : Nat} (hn : fn.ntmps = n) (ha : args.length ≤ n)
    (h : Tr P n c ⟨entry args, objs⟩ (fun e st => e = .ret ∧ ∃ r0 gone, sX P st rs r0 ∧ st.objs.Perm (objs' ++ gone) ∧ BV gone r0 r)) : fI P f args objs (fun r' o => r' = r ∧ o = objs') :=
  jA hf hb hr hn ha (rY h fun e st ⟨h1, r0, gone, h2, h3, h4⟩ => ⟨h1, r0, objs', gone, r, h2, h3, h4, rfl, rfl⟩)

/-- A nil slice is one of the call's own. -/
theorem wX (e k : Nat) {env : Nat → AV} {objs : List MO} : Ent ⟨env, objs⟩ ⟨env, objs ++ [.arr (.slice none 0 0) e k []]⟩ := by
  intro A M w0 n a w hR
  exact hR.add (w' := w) (m := .arr (.slice none 0 0) e k []) (Keeps.refl _ _) (fun b o hf => by simp [MO.foot, Value.ownBlock] at hf)
    (fun hm => ⟨[], trivial, ⟨by simp, .inl ⟨rfl, rfl⟩⟩, by simp⟩)


section
variable {P : Program} {n d : Nat} {st : St} {o : Oper}
/-- Something read as something weaker. -/
theorem aKh {x y : AV} (hw : BV [] x y) (h : dH P n o st (st.set d x)) : dH P n o st (st.set d y) := by
  intro A M w0 a w hR K Q hK
  refine h A M w0 a w hR K Q ?_
  rintro s a' w' rfl hR'
  refine hK _ _ _ rfl ?_
  have := oV (env := upd st.env d x) (env' := upd st.env d y) (objs := st.objs) (keepers := st.objs) (gone := []) (by simp) (fun k => by
    by_cases hk : d = k
    · subst hk; rw [iQ, iQ]; exact hw
    · rw [nE _ _ hk, nE _ _ hk]; exact .same _)
  exact this A M w0 n a' w' hR'
end

theorem aFg (fs : List MO) (e : Nat → AV) : BLe fs e e := fun _ => .same _
/-- The last objects are let go. -/
theorem aHc {env env' : Nat → AV} {objs : List MO} (keepers gone : List MO) (ho : objs = keepers ++ gone) (h : BLe gone env env') : Ent ⟨env, objs⟩ ⟨env', keepers⟩ := oV (ho ▸ List.Perm.refl _) h
theorem aNu {P : Program} {n : Nat} {c : Code} {Q : Exit → St → Prop} {env env' : Nat → AV} {objs : List MO} (keepers gone : List MO) (ho : objs = keepers ++ gone) (h : BLe gone env env') (k : Tr P n c ⟨env', keepers⟩ Q) : Tr P n c ⟨env, objs⟩ Q := cT (aHc keepers gone ho h) k
theorem aNf {P : Program} {n : Nat} {ops : Array Oper} {l : List Oper} {Q : Exit → St → Prop} {env env' : Nat → AV} {objs : List MO} (keepers gone : List MO) (ho : objs = keepers ++ gone) (h : BLe gone env env') (k : TrL P n ops l ⟨env', keepers⟩ Q) : TrL P n ops l ⟨env, objs⟩ Q := lB (aHc keepers gone ho h) k
section
variable {P : Program} {n d : Nat} {st : St}
end


/-- A scope that no jump runs through. -/
def vY (Q : Exit → St → Prop) : Prop := ∀ l s, ¬ Q (.goto l) s
theorem aMt {N : St → Prop} {Q : Exit → St → Prop} (h : vY Q) : vY (kN N Q) := fun l s hq => h l s hq
theorem aLe {id : Nat} {N : St → Prop} {Q : Exit → St → Prop} (h : vY Q) : vY (qD id N Q) := fun l s hq => h l s hq
theorem aNp {p : St → Prop} : vY (fun e s => e = .ret ∧ p s) := fun l s hq => by cases hq.1
theorem aGy {P : Program} {b : Frame} {a : Act} {k : List Item} {cs : List Frame} {w : World} {c : Code} : step P (lone (b.atR a (.code (.scope c) :: k)) cs w) = .next (lone (b.atR a (.code c :: .inScope c :: k)) cs w) :=
  step_lone_go (by simp [stepG, stepG.exec, Frame.atR])
theorem aEu {P : Program} {b : Frame} {a : Act} {k : List Item} {cs : List Frame} {w : World} {c : Code} : step P (lone (b.atR a (.inScope c :: k)) cs w) = .next (lone (b.atR a k) cs w) :=
  step_lone_go (by simp [stepG, stepG.exec, Frame.atR])
theorem yG {F : Fence} {n : Nat} {P : Program} {a : Act} {w : World} {Q : Exit → Act → World → Prop} {c : Code} (h : c.wpIn F n P (Exit.noGoto Q) a w) : (Code.scope c).wpIn F n P Q a w := by
  intro b k cs hro hb hr
  obtain ⟨e, a₁, w₁, hq, harr⟩ := h b (.inScope c :: k) cs hro hb hr
  have s0 : StepsIn (Machine.fenced P F) P (lone (b.atR a (.code (.scope c) :: k)) cs w) (lone (b.atR a (.code c :: .inScope c :: k)) cs w) := .one (fenced_calm (fr := b.atR a (.code (.scope c) :: k)) hb hr rfl) aGy
  have harr := ArrivesIn.of_steps s0 harr
  cases e with
  | normal => exact ⟨.normal, a₁, w₁, hq, StepsIn.trans harr (.one (fenced_calm (fr := b.atR a₁ (.inScope c :: k)) hb hr rfl) aEu)⟩
  | goto l => exact hq.elim
  | exit id => exact ⟨.exit id, a₁, w₁, hq, fun k' hk => harr.1 k' (by simp [exitTo, hk]), fun hr hk => harr.2 hr (by simp [exitTo, hk])⟩
  | ret => exact ⟨.ret, a₁, w₁, hq, harr⟩
  | panic ch => exact ⟨.panic ch, a₁, w₁, hq, harr⟩
  | outgrown => exact ⟨.outgrown, a₁, w₁, hq, harr⟩
theorem aLs {P : Program} {n : Nat} {st : St} {c : Code} {Q : Exit → St → Prop} (hg : vY Q) (h : Tr P n c st Q) : Tr P n (.scope c) st Q := by
  intro A M w0 a w hR hn
  refine yG (wpIn_mono (h A M w0 a w hR hn) ?_)
  rintro e a' w' ⟨st', hq, hR'⟩
  cases e with
  | goto l => exact absurd hq (hg l st')
  | _ => exact ⟨st', hq, hR'⟩


/-- A slice that may be nil. -/
def eF {α : Type} (k : Nat) (f : α → List D) : Option (List α) → D
  | none => .lit (.slice none 0 0)
  | some xs => .sn k (xs.map f)
theorem aNk {fs : List MO} {α : Type} {k : Nat} {f : α → List D} (e : Option (List α)) : DV fs (eF k f e) (.sl k ((e.getD []).map f)) := by
  cases e with
  | none => exact .nil k
  | some xs => exact .weak k _
section
variable {P : Program} {n d : Nat} {st : St}
theorem aHn {α : Type} {k : Nat} {f : α → List D} {e : Option (List α)} {x : Operand} {t u el ty : TypeId} {pos : String} {af : Array Edge} {gd : Option (Nat × Bool)} (hd : d < n)
    (hx : st.eval x = .d (eF k f e)) (ht : P.underlying t = some (.slice el)) :
    dH P n ⟨some d, .binOp .eql t x (.const (.slice none 0 0)) u, ty, pos, af, gd⟩ st (st.set d (.b e.isNone)) :=
  lP rfl hd rfl fun A M w0 a w hR => by
    have hk : eZ x = true := by
      cases x with
      | const v =>
        cases e with
        | none => simp only [St.eval, eF, AV.d.injEq, D.lit.injEq] at hx; subst hx; rfl
        | some xs => cases hx
      | _ => rfl
    have h := hR.eval' hk
    rw [hx] at h
    generalize hu : a.eval x = v at h
    cases h with
    | d h =>
      cases e with
      | none =>
        cases h with
        | lit _ _ =>
          have hb := Lib.run_eql_slice_nil (P := P) w t el none 0 0 0 0 ht
          have hg : eqGuard .eql t x (.const (.slice none 0 0)) (.slice none 0 0) (.slice none 0 0) = pure () := rfl
          have hc : a.eval (.const (.slice none 0 0)) = .slice none 0 0 := rfl
          simp only [execOp, hu, hc, Sem.run_bind, Sem.run_pure, hg, hb, Result.andThen_ok]
          rfl
      | some xs =>
        have key : ∀ (ad : Addr) (m cap : Nat), v = .slice (some ad) m cap → (execOp a.eval ⟨some d, .binOp .eql t x (.const (.slice none 0 0)) u, ty, pos, af, gd⟩).run P w = .ok (.value (.bool false)) w := by
          rintro ad m cap rfl
          have hb := Lib.run_eql_slice_nil (P := P) w t el (some ad) m cap 0 0 ht
          have hg : eqGuard .eql t x (.const (.slice none 0 0)) (.slice (some ad) m cap) (.slice none 0 0) = pure () := rfl
          have hc : a.eval (.const (.slice none 0 0)) = .slice none 0 0 := rfl
          simp only [execOp, hu, hc, Sem.run_bind, Sem.run_pure, hg, hb, Result.andThen_ok]
          rfl
        have h2 : DR w (cO A st.objs) (D.sn k (xs.map f)) v := h
        generalize hd' : D.sn k (xs.map f) = dd at h2
        cases h2 with
        | e1 _ a => exact key _ _ _ rfl
        | sn _ _ b o cap f' => exact key _ _ _ rfl
        | _ => cases hd'
end

end Go.Am
