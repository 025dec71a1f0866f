/- The program logic 'Am': results that lie in cells. -/
import Derived.Test.YtiohgpipanopaaaGreatAmDraw2
import Derived.Scope
import Derived.Lib.SliceRun
namespace Go.Am
theorem aHu {P : Program} {t : TypeId} {m : Nat} (ht : kR P t m) {w : World} {b o : Nat} {vs : List Value} (hl : vs.length = m) (h : cellsAt w b o vs) :
  (loadVar t ⟨b, o, none⟩).run P w = .ok (.agg vs.toArray) w := by
 subst hl
 have := run_loadCells_list (P := P) w ⟨b, o, none⟩ vs fun j v hj => by rw [Addr.add_lit]; exact h j v hj
 simp [loadVar, ht.1, ht.2, this]
inductive RVc (P : Program) (st : St) : ResultVar → AV → Prop where
 | tmp (t : Nat) {v : AV} (h : st.env t = v) : RVc P st (.tmp t) v
 | cell (a : Nat) (t : TypeId) {b o j i m : Nat} {ds es : List D} (ha : st.env a = .bp b o j) (ho : st.objs[i]? = some (.box b o ds)) (ht : kR P t m) (he : (ds.drop j).take m = es) (hl : es.length = m) : RVc P st (.cell a t) (.agg es)
 | cell1 (a : Nat) (t : TypeId) {b o j i : Nat} {ds : List D} {d0 : D} (ha : st.env a = .bp b o j) (ho : st.objs[i]? = some (.box b o ds)) (ht : jX P t) (he : ds[j]? = some d0) : RVc P st (.cell a t) (.d d0)
def xA (tmps : Array Value) : ResultVar → Sem Value
 | .tmp t => pure (tmps.getD t undef)
 | .cell a t => do loadVar t (← asAddr (tmps.getD a undef))
theorem RVc.run {P : Program} {st : St} {x : ResultVar} {r : AV} (h : RVc P st x r) {A M : bP} {w0 : W0} {n : Nat} {a : Act} {w : World} (hR : R A M w0 n st a w) :
  ∃ v, (xA a.tmps x).run P w = .ok v w ∧ VR w (bR A st.objs) r v := by
 cases h with
 | tmp t h => exact ⟨_, rfl, h ▸ hR.env t⟩
 | @cell p t b o j i m ds es ha ho ht he hl =>
  have h := hR.env p
  rw [ha] at h
  generalize hu : a.tmps.getD p undef = u at h
  obtain ⟨vs, hds, hc, _⟩ := hR.inv.holds _ (List.mem_of_getElem? ho)
  have hdt := (hds.drop j).take m
  cases h with
  | bp =>
   subst he
   refine ⟨.agg ((vs.drop j).take m).toArray, ?_, .agg (by simpa using hdt)⟩
   simp [xA, hu, asAddr, aHu ht (vs := (vs.drop j).take m) (by rw [hdt.length, hl]) ((hc.drop j).take m)]
 | @cell1 p t b o j i ds d0 ha ho ht he =>
  have h := hR.env p
  rw [ha] at h
  generalize hu : a.tmps.getD p undef = u at h
  obtain ⟨vs, hds, hc, _⟩ := hR.inv.holds _ (List.mem_of_getElem? ho)
  obtain ⟨v, hv, hdv⟩ := hds.get he
  cases h with
  | bp =>
   refine ⟨v, ?_, .d hdv⟩
   have hcell := hc j v hv
   simp [xA, hu, asAddr, loadVar, ht.1, hcell]
inductive vY (P : Program) (st : St) : List ResultVar → AV → Prop where
 | one {x : ResultVar} {r : AV} (h : RVc P st x r) : vY P st [x] r
 | two {x y : ResultVar} {r s : AV} (h : RVc P st x r) (h2 : RVc P st y s) : vY P st [x, y] (.tup [r, s])
 | three {x y z : ResultVar} {r s t : AV} (h : RVc P st x r) (h2 : RVc P st y s) (h3 : RVc P st z t) : vY P st [x, y, z] (.tup [r, s, t])
 | none : vY P st [] (.tup [])
theorem vE (fn : Func) (tmps : Array Value) : results fn tmps = (do
  let vs ← fn.results.mapM (xA tmps)
  pure (if h : vs.size = 1 then vs[0] else .tuple vs)) := by
 unfold results
 have : (fun x : ResultVar => xA tmps x) = xA tmps := rfl
 congr 1
theorem aBv {fn : Func} {rs : List ResultVar} (hr : fn.results = rs.toArray) {P : Program} {st : St} {r : AV} (h : vY P st rs r) {A M : bP} {w0 : W0} {n : Nat} {a : Act} {w : World} (hR : R A M w0 n st a w) :
  ∃ v, (results fn a.tmps).run P w = .ok v w ∧ VR w (bR A st.objs) r v := by
 cases h with
 | one h =>
  obtain ⟨v, h1, h2⟩ := h.run hR
  refine ⟨v, ?_, h2⟩
  rw [vE, hr]
  simp [h1]
 | two h k =>
  obtain ⟨v, h1, h2⟩ := h.run hR
  obtain ⟨u, k1, k2⟩ := k.run hR
  refine ⟨.tuple #[v, u], ?_, .tup (us := [_, _]) rfl fun i hi => by
    match i, hi with
    | 0, _ => exact h2
    | 1, _ => exact k2⟩
  rw [vE, hr]
  simp [h1, k1]
 | three h k l =>
  obtain ⟨v, h1, h2⟩ := h.run hR
  obtain ⟨u, k1, k2⟩ := k.run hR
  obtain ⟨x, l1, l2⟩ := l.run hR
  refine ⟨.tuple #[v, u, x], ?_, .tup (us := [_, _, _]) rfl fun i hi => by
    match i, hi with
    | 0, _ => exact h2
    | 1, _ => exact k2
    | 2, _ => exact l2⟩
  rw [vE, hr]
  simp [h1, k1, l1]
 | none =>
  refine ⟨.tuple #[], ?_, .tup (us := []) rfl fun i hi => by simp at hi⟩
  rw [vE, hr]
  simp
theorem gY {P : Program} {f : FuncId} {fn : Func} {c : Code} {args : List AV} {objs : List MO} {Q : AV → List MO → Prop} (hf : P.funcs[f]? = some fn) (hb : fn.body = some c) {rs : List ResultVar} (hr : fn.results = rs.toArray) {n : Nat} (hn : fn.ntmps = n) (ha : args.length ≤ n)
  (h : Tr P n c ⟨entry args, objs⟩ (fun e st => e = .ret ∧ ∃ r0 objs' gone r, vY P st rs r0 ∧ st.objs.Perm (objs' ++ gone) ∧ BV gone r0 r ∧ Q r objs')) : dN P f args objs Q := by
 subst hn
 intro A w vs hinv hA hvs
 refine yZ hf hb ha h hinv hA hvs (fun e st hq => .inl hq.1) ?_
 rintro e st a' w' ⟨rfl, r0, objs', gone, r, hres, hp, hbv, hq⟩ hR'
 obtain ⟨v, hrun, hv⟩ := aBv hr hres hR'
 have hR1 : R A (gB objs) ⟨w, [], none⟩ 1 ⟨upd emp 0 r0, st.objs⟩ { tmps := #[v], defers := [] } w' := by
  refine ⟨rfl, Marks.nil _ ⟨w, [], none⟩ _, fun k => ?_, hR'.inv, hR'.keeps, hR'.own, hR'.old⟩
  show VR _ _ (upd emp 0 r0 k) _
  by_cases hk : 0 = k
  ·subst hk; rw [fN]; exact hv
  ·rw [lV _ _ hk]; exact .any _
 have hR2 := pV (env' := upd emp 0 r) hp (fun k => by
  by_cases hk : 0 = k
  ·subst hk; rw [fN, fN]; exact hbv
  ·rw [lV _ _ hk, lV _ _ hk]; exact .any _) A (gB objs) ⟨w, [], none⟩ 1 _ w' hR1
 have hv2 : VR w' (bR A objs') (upd emp 0 r 0) v := hR2.env 0
 rw [fN] at hv2
 exact ⟨v, hrun, v, r, objs', rfl, hR2.keeps, hR2.inv, hv2, hR2.own, hq⟩
theorem jE {P : Program} {f : FuncId} {fn : Func} {c : Code} {args : List AV} {objs objs' : List MO} {r : AV} (hf : P.funcs[f]? = some fn) (hb : fn.body = some c) {rs : List ResultVar} (hr : fn.results = rs.toArray) {n : Nat} (hn : fn.ntmps = n) (ha : args.length ≤ n)
  (h : Tr P n c ⟨entry args, objs⟩ (fun e st => e = .ret ∧ ∃ r0 gone, vY P st rs r0 ∧ st.objs.Perm (objs' ++ gone) ∧ BV gone r0 r)) : dN P f args objs (fun r' o => r' = r ∧ o = objs') :=
 gY hf hb hr hn ha (zY h fun e st ⟨h1, r0, gone, h2, h3, h4⟩ => ⟨h1, r0, objs', gone, r, h2, h3, h4, rfl, rfl⟩)
theorem wK (e k : Nat) {env : Nat → AV} {objs : List MO} : Ent ⟨env, objs⟩ ⟨env, objs ++ [.arr (.slice none 0 0) e k []]⟩ := by
 intro A M w0 n a w hR
 exact hR.add (w' := w) (m := .arr (.slice none 0 0) e k []) (Keeps.refl _ _) (fun b o hf => by simp [MO.foot, Value.ownBlock] at hf)
  (fun hm => ⟨[], trivial, ⟨by simp, .inl ⟨rfl, rfl⟩⟩, by simp⟩)
section
variable {P : Program} {n d : Nat} {st : St} {o : Oper}
theorem aMk {c : Callee} {l : List Operand} {f : FuncId} {args args' : List AV} {r : AV} {ts : Array TypeId} {ty : TypeId} {pos : String} {af : Array Edge} {gd : Option (Nat × Bool)} (hd : d < n)
  {a0 : List AV} (hc : oQ P st c l f a0) (ha : a0 = args) (hok : oM l = true) (hb : BVs [] args args') (hf : Fn P f args' r) :
  bH P n ⟨some d, .call { callee := c, args := l.toArray, argTypes := ts }, ty, pos, af, gd⟩ st (st.set d r) := by
 refine dT hd hc ha hok ?_
 intro A w vs hinv hA hvs
 exact hf A w vs hinv hA (hb.sound (fun m hm => by simp at hm) (fun _ _ h => h) (fun m hm => by simp at hm) hvs)
theorem aRo {x y : AV} (hw : BV [] x y) (h : bH P n o st (st.set d x)) : bH P n o st (st.set d y) := by
 intro A M w0 a w hR K Q hK
 refine h A M w0 a w hR K Q ?_
 rintro s a' w' rfl hR'
 refine hK _ _ _ rfl ?_
 have := pV (env := upd st.env d x) (env' := upd st.env d y) (objs := st.objs) (keepers := st.objs) (gone := []) (by simp) (fun k => by
  by_cases hk : d = k
  ·subst hk; rw [fN, fN]; exact hw
  ·rw [lV _ _ hk, lV _ _ hk]; exact .same _)
 exact this A M w0 n a' w' hR'
end
theorem sR (fs : List MO) (e : Nat → AV) : BLe fs e e := fun _ => .same _
theorem aQf {fs : List MO} {e e' : Nat → AV} {k : Nat} {v v' : AV} (hv : BV fs v v') (h : BLe fs e e') : BLe fs (upd e k v) (upd e' k v') := by
 intro j
 by_cases hj : k = j
 ·subst hj; rw [fN, fN]; exact hv
 ·rw [lV _ _ hj, lV _ _ hj]; exact h j
theorem zP {env env' : Nat → AV} {objs : List MO} (keepers gone : List MO) (ho : objs = keepers ++ gone) (h : BLe gone env env') : Ent ⟨env, objs⟩ ⟨env', keepers⟩ := pV (ho ▸ List.Perm.refl _) h
theorem aWt {P : Program} {n : Nat} {c : Code} {Q : Exit → St → Prop} {env env' : Nat → AV} {objs : List MO} (keepers gone : List MO) (ho : objs = keepers ++ gone) (h : BLe gone env env') (k : Tr P n c ⟨env', keepers⟩ Q) : Tr P n c ⟨env, objs⟩ Q := bM (zP keepers gone ho h) k
theorem aOm {P : Program} {n : Nat} {ops : Array Oper} {l : List Oper} {Q : Exit → St → Prop} {env env' : Nat → AV} {objs : List MO} (keepers gone : List MO) (ho : objs = keepers ++ gone) (h : BLe gone env env') (k : TrL P n ops l ⟨env', keepers⟩ Q) : TrL P n ops l ⟨env, objs⟩ Q := fE (zP keepers gone ho h) k
theorem aNy {v : Value} {e k : Nat} {rows : List (List D)} (hk : ∀ r ∈ rows, r.length = k) : DV [.arr v e k rows] (.lit v) (.sl k rows) :=
 .arr v e k rows rows (by simp) rfl hk fun _ _ _ _ => .same _
section
variable {P : Program} {n d : Nat} {st : St}
end
section
variable {P : Program} {n d : Nat} {st : St}
end
end Go.Am
