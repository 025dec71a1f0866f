/- The program logic 'Am': results that lie in cells. -/
import Derived.Test.YtiohgpipanopaaaGreatAmDraw2
import Derived.Scope
import Derived.Lib.SliceRun
namespace Go.Am
theorem aJk {P : Program} {t : TypeId} {m : Nat} (ht : jP P t m) {w : World} {b o : Nat} {vs : List Value} (hl : vs.length = m) (h : cellsAt w b o vs) :
  (loadVar t ⟨b, o, none⟩).run P w = .ok (.agg vs.toArray) w := by
 subst hl
 have := run_loadCells_list (P := P) w ⟨b, o, none⟩ vs fun j v hj => by rw [Addr.add_lit]; exact h j v hj
 simp [loadVar, ht.1, ht.2, this]
inductive RVc (P : Program) (st : St) : ResultVar → AV → Prop where
 | tmp (t : Nat) {v : AV} (h : st.env t = v) : RVc P st (.tmp t) v
 | cell (a : Nat) (t : TypeId) {b o j i m : Nat} {ds es : List D} (ha : st.env a = .bp b o j) (ho : st.objs[i]? = some (.box b o ds)) (ht : jP P t m) (he : (ds.drop j).take m = es) (hl : es.length = m) : RVc P st (.cell a t) (.agg es)
 | cell1 (a : Nat) (t : TypeId) {b o j i : Nat} {ds : List D} {d0 : D} (ha : st.env a = .bp b o j) (ho : st.objs[i]? = some (.box b o ds)) (ht : iG P t) (he : ds[j]? = some d0) : RVc P st (.cell a t) (.d d0)
def yV (tmps : Array Value) : ResultVar → Sem Value
 | .tmp t => pure (tmps.getD t undef)
 | .cell a t => do loadVar t (← asAddr (tmps.getD a undef))
theorem RVc.run {P : Program} {st : St} {x : ResultVar} {r : AV} (h : RVc P st x r) {A M : bZ} {w0 : W0} {n : Nat} {a : Act} {w : World} (hR : R A M w0 n st a w) :
  ∃ v, (yV a.tmps x).run P w = .ok v w ∧ VR w (bN A st.objs) r v := by
 cases h with
 | tmp t h => exact ⟨_, rfl, h ▸ hR.env t⟩
 | @cell p t b o j i m ds es ha ho ht he hl =>
  have h := hR.env p
  rw [ha] at h
  generalize hu : a.tmps.getD p undef = u at h
  obtain ⟨vs, hds, hc, _⟩ := hR.inv.holds _ (List.mem_of_getElem? ho)
  have hdt := (hds.drop j).take m
  cases h with
  | bp =>
   subst he
   refine ⟨.agg ((vs.drop j).take m).toArray, ?_, .agg (by simpa using hdt)⟩
   simp [yV, hu, asAddr, aJk ht (vs := (vs.drop j).take m) (by rw [hdt.length, hl]) ((hc.drop j).take m)]
 | @cell1 p t b o j i ds d0 ha ho ht he =>
  have h := hR.env p
  rw [ha] at h
  generalize hu : a.tmps.getD p undef = u at h
  obtain ⟨vs, hds, hc, _⟩ := hR.inv.holds _ (List.mem_of_getElem? ho)
  obtain ⟨v, hv, hdv⟩ := hds.get he
  cases h with
  | bp =>
   refine ⟨v, ?_, .d hdv⟩
   have hcell := hc j v hv
   simp [yV, hu, asAddr, loadVar, ht.1, hcell]
inductive xJ (P : Program) (st : St) : List ResultVar → AV → Prop where
 | one {x : ResultVar} {r : AV} (h : RVc P st x r) : xJ P st [x] r
 | two {x y : ResultVar} {r s : AV} (h : RVc P st x r) (h2 : RVc P st y s) : xJ P st [x, y] (.tup [r, s])
 | three {x y z : ResultVar} {r s t : AV} (h : RVc P st x r) (h2 : RVc P st y s) (h3 : RVc P st z t) : xJ P st [x, y, z] (.tup [r, s, t])
 | none : xJ P st [] (.tup [])
theorem wM (fn : Func) (tmps : Array Value) : results fn tmps = (do
  let vs ← fn.results.mapM (yV tmps)
  pure (if h : vs.size = 1 then vs[0] else .tuple vs)) := by
 unfold results
 have : (fun x : ResultVar => yV tmps x) = yV tmps := rfl
 congr 1
theorem aDp {fn : Func} {rs : List ResultVar} (hr : fn.results = rs.toArray) {P : Program} {st : St} {r : AV} (h : xJ P st rs r) {A M : bZ} {w0 : W0} {n : Nat} {a : Act} {w : World} (hR : R A M w0 n st a w) :
  ∃ v, (results fn a.tmps).run P w = .ok v w ∧ VR w (bN A st.objs) r v := by
 cases h with
 | one h =>
  obtain ⟨v, h1, h2⟩ := h.run hR
  refine ⟨v, ?_, h2⟩
  rw [wM, hr]
  simp [h1]
 | two h k =>
  obtain ⟨v, h1, h2⟩ := h.run hR
  obtain ⟨u, k1, k2⟩ := k.run hR
  refine ⟨.tuple #[v, u], ?_, .tup (us := [_, _]) rfl fun i hi => by
    match i, hi with
    | 0, _ => exact h2
    | 1, _ => exact k2⟩
  rw [wM, hr]
  simp [h1, k1]
 | three h k l =>
  obtain ⟨v, h1, h2⟩ := h.run hR
  obtain ⟨u, k1, k2⟩ := k.run hR
  obtain ⟨x, l1, l2⟩ := l.run hR
  refine ⟨.tuple #[v, u, x], ?_, .tup (us := [_, _, _]) rfl fun i hi => by
    match i, hi with
    | 0, _ => exact h2
    | 1, _ => exact k2
    | 2, _ => exact l2⟩
  rw [wM, hr]
  simp [h1, k1, l1]
 | none =>
  refine ⟨.tuple #[], ?_, .tup (us := []) rfl fun i hi => by simp at hi⟩
  rw [wM, hr]
  simp
theorem gQ {P : Program} {f : FuncId} {fn : Func} {c : Code} {args : List AV} {objs : List MO} {Q : AV → List MO → Prop} (hf : P.funcs[f]? = some fn) (hb : fn.body = some c) {rs : List ResultVar} (hr : fn.results = rs.toArray) {n : Nat} (hn : fn.ntmps = n) (ha : args.length ≤ n)
  (h : Tr P n c ⟨entry args, objs⟩ (fun e st => e = .ret ∧ ∃ r0 objs' gone r, xJ P st rs r0 ∧ st.objs.Perm (objs' ++ gone) ∧ BV gone r0 r ∧ Q r objs')) : dR P f args objs Q := by
 subst hn
 intro A w vs hinv hA hvs
 refine aAq hf hb ha h hinv hA hvs (fun e st hq => .inl hq.1) ?_
 rintro e st a' w' ⟨rfl, r0, objs', gone, r, hres, hp, hbv, hq⟩ hR'
 obtain ⟨v, hrun, hv⟩ := aDp hr hres hR'
 have hR1 : R A (eT objs) ⟨w, [], none⟩ 1 ⟨upd emp 0 r0, st.objs⟩ { tmps := #[v], defers := [] } w' := by
  refine ⟨rfl, Marks.nil _ ⟨w, [], none⟩ _, fun k => ?_, hR'.inv, hR'.keeps, hR'.own, hR'.old⟩
  show VR _ _ (upd emp 0 r0 k) _
  by_cases hk : 0 = k
  ·subst hk; rw [gW]; exact hv
  ·rw [nC _ _ hk]; exact .any _
 have hR2 := tD (env' := upd emp 0 r) hp (fun k => by
  by_cases hk : 0 = k
  ·subst hk; rw [gW, gW]; exact hbv
  ·rw [nC _ _ hk, nC _ _ hk]; exact .any _) A (eT objs) ⟨w, [], none⟩ 1 _ w' hR1
 have hv2 : VR w' (bN A objs') (upd emp 0 r 0) v := hR2.env 0
 rw [gW] at hv2
 exact ⟨v, hrun, v, r, objs', rfl, hR2.keeps, hR2.inv, hv2, hR2.own, hq⟩
theorem eU {P : Program} {f : FuncId} {fn : Func} {c : Code} {args : List AV} {objs objs' : List MO} {r : AV} (hf : P.funcs[f]? = some fn) (hb : fn.body = some c) {rs : List ResultVar} (hr : fn.results = rs.toArray) {n : Nat} (hn : fn.ntmps = n) (ha : args.length ≤ n)
  (h : Tr P n c ⟨entry args, objs⟩ (fun e st => e = .ret ∧ ∃ r0 gone, xJ P st rs r0 ∧ st.objs.Perm (objs' ++ gone) ∧ BV gone r0 r)) : dR P f args objs (fun r' o => r' = r ∧ o = objs') :=
 gQ hf hb hr hn ha (wL h fun e st ⟨h1, r0, gone, h2, h3, h4⟩ => ⟨h1, r0, objs', gone, r, h2, h3, h4, rfl, rfl⟩)
theorem vE (e k : Nat) {env : Nat → AV} {objs : List MO} : Ent ⟨env, objs⟩ ⟨env, objs ++ [.arr (.slice none 0 0) e k []]⟩ := by
 intro A M w0 n a w hR
 exact hR.add (w' := w) (m := .arr (.slice none 0 0) e k []) (Keeps.refl _ _) (fun b o hf => by simp [MO.foot, Value.ownBlock] at hf)
  (fun hm => ⟨[], trivial, ⟨by simp, .inl ⟨rfl, rfl⟩⟩, by simp⟩)
section
variable {P : Program} {n d : Nat} {st : St} {o : Oper}
end
theorem mS (fs : List MO) (e : Nat → AV) : BLe fs e e := fun _ => .same _
theorem aBd {fs : List MO} {e e' : Nat → AV} {k : Nat} {v v' : AV} (hv : BV fs v v') (h : BLe fs e e') : BLe fs (upd e k v) (upd e' k v') := by
 intro j
 by_cases hj : k = j
 ·subst hj; rw [gW, gW]; exact hv
 ·rw [nC _ _ hj, nC _ _ hj]; exact h j
theorem rJ {env env' : Nat → AV} {objs : List MO} (keepers gone : List MO) (ho : objs = keepers ++ gone) (h : BLe gone env env') : Ent ⟨env, objs⟩ ⟨env', keepers⟩ := tD (ho ▸ List.Perm.refl _) h
theorem aYp {P : Program} {n : Nat} {c : Code} {Q : Exit → St → Prop} {env env' : Nat → AV} {objs : List MO} (keepers gone : List MO) (ho : objs = keepers ++ gone) (h : BLe gone env env') (k : Tr P n c ⟨env', keepers⟩ Q) : Tr P n c ⟨env, objs⟩ Q := bX (rJ keepers gone ho h) k
theorem aQg {P : Program} {n : Nat} {ops : Array Oper} {l : List Oper} {Q : Exit → St → Prop} {env env' : Nat → AV} {objs : List MO} (keepers gone : List MO) (ho : objs = keepers ++ gone) (h : BLe gone env env') (k : TrL P n ops l ⟨env', keepers⟩ Q) : TrL P n ops l ⟨env, objs⟩ Q := eP (rJ keepers gone ho h) k
theorem yS {v : Value} {e k : Nat} {rows : List (List D)} (hk : ∀ r ∈ rows, r.length = k) : DV [.arr v e k rows] (.lit v) (.sl k rows) :=
 .arr v e k rows rows (by simp) rfl hk fun _ _ _ _ => .same _
section
variable {P : Program} {n d : Nat} {st : St}
end
section
variable {P : Program} {n d : Nat} {st : St}
end
end Go.Am
