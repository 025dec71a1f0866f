/- The program logic 'Am': families of growable slices, rules whose outcome is told by the family alone; results that the caller owns. -/
import Derived.Test.YtikcmpflkibomaaAmFam
namespace Go.Am

/-- The member of a family at a place. -/
def famv (vs : List Value) (p : Int) : Value := vs.getD p.toNat nilv

section
variable {P : Program} {n d : Nat} {st : St} {o : Oper} {f e k j : Nat} {vs : List Value} {v : Value} {α : Type} {g : α → List D} {c c' : List (List α)} {row : List α}

theorem fam_at {A M : Zone} {w0 : World} {a : Act} {w : World} (hR : R A M w0 n st a w) (hf : st.objs[f]? = some (.fam e k vs (c.map fun r => r.map g))) {q : Int} (hq : idx c q = some row) : vs[q.toNat]? = some (famv vs q) := by
  obtain ⟨hl, _⟩ := hR.inv.holds _ (List.mem_of_getElem? hf)
  obtain ⟨h0, h1, h2⟩ := idx_spec hq
  have hlt : q.toNat < vs.length := by simp at hl; omega
  simp [famv, List.getD, hlt]

theorem s_index_famd {x y : Operand} {t e0 m : Nat} {v0 : Value} {kd : IntKind} {p : Int} {ty : TypeId} {pos : String} {af : Array Edge} {gd : Option (Nat × Bool)} (hd : d < n)
    (hx : st.eval x = .d (.lit v0)) (ho : st.objs[m]? = some (.arr v0 e0 1 (vs.map fun v => [.lit v]))) (hf : st.objs[f]? = some (.fam e k vs (c.map fun r => r.map g))) (hy : st.eval y = .d (.lit (.int kd p))) (ht : SliceOf P t e0 1) (hp : idx c p = some row) :
    Step1 P n ⟨some d, .indexAddr t x y, ty, pos, af, gd⟩ st (st.set d (.ep v0 1 p.toNat 0)) := by
  intro A M w0 a w hR K Q hK
  exact s_index_fam hd hx ho hf hy ht hp A M w0 a w hR K Q fun s a' w' ⟨_, _, hs⟩ hR' => hK s a' w' hs hR'
theorem s_load_famd {x : Operand} {t e0 m : Nat} {v0 : Value} {p : Int} {ty : TypeId} {pos : String} {af : Array Edge} {gd : Option (Nat × Bool)} (hd : d < n)
    (hx : st.eval x = .ep v0 1 p.toNat 0) (ho : st.objs[m]? = some (.arr v0 e0 1 (vs.map fun v => [.lit v]))) (hf : st.objs[f]? = some (.fam e k vs (c.map fun r => r.map g))) (hp : idx c p = some row) (ht : IsOne P t) :
    Step1 P n ⟨some d, .load t x, ty, pos, af, gd⟩ st (st.set d (.d (.lit (famv vs p)))) := by
  intro A M w0 a w hR K Q hK
  exact s_load_fam hd hx ho (fam_at hR hf hp) ht A M w0 a w hR K Q hK
theorem s_index_ind {x y : Operand} {t : Nat} {a : α} {kd : IntKind} {q p : Int} {ty : TypeId} {pos : String} {af : Array Edge} {gd : Option (Nat × Bool)} (hd : d < n)
    (hx : st.eval x = .d (.lit (famv vs q))) (hf : st.objs[f]? = some (.fam e k vs (c.map fun r => r.map g))) (hq : idx c q = some row) (hy : st.eval y = .d (.lit (.int kd p))) (ht : SliceOf P t e k) (hp : idx row p = some a) :
    Step1 P n ⟨some d, .indexAddr t x y, ty, pos, af, gd⟩ st (st.set d (.ep (famv vs q) k p.toNat 0)) := by
  intro A M w0 a w hR K Q hK
  exact s_index_in hd hx hf (fam_at hR hf hq) hq hy ht hp A M w0 a w hR K Q hK
theorem s_load_ind {x : Operand} {t : Nat} {a : α} {q p : Int} {j : Nat} {d0 : D} {ty : TypeId} {pos : String} {af : Array Edge} {gd : Option (Nat × Bool)} (hd : d < n)
    (hx : st.eval x = .ep (famv vs q) k p.toNat j) (hf : st.objs[f]? = some (.fam e k vs (c.map fun r => r.map g))) (hq : idx c q = some row) (hp : idx row p = some a) (hj : (g a)[j]? = some d0) (ht : IsOne P t) :
    Step1 P n ⟨some d, .load t x, ty, pos, af, gd⟩ st (st.set d (.d d0)) := by
  intro A M w0 a w hR K Q hK
  exact s_load_in hd hx hf (fam_at hR hf hq) hq hp hj ht A M w0 a w hR K Q hK
theorem s_loada_ind {x : Operand} {t m : Nat} {a : α} {q p : Int} {j : Nat} {es : List D} {ty : TypeId} {pos : String} {af : Array Edge} {gd : Option (Nat × Bool)} (hd : d < n)
    (hx : st.eval x = .ep (famv vs q) k p.toNat j) (hf : st.objs[f]? = some (.fam e k vs (c.map fun r => r.map g))) (hq : idx c q = some row) (hp : idx row p = some a) (ht : IsAgg P t m) (he : ((g a).drop j).take m = es) (hl : es.length = m) :
    Step1 P n ⟨some d, .load t x, ty, pos, af, gd⟩ st (st.set d (.agg es)) := by
  intro A M w0 a w hR K Q hK
  exact s_loada_in hd hx hf (fam_at hR hf hq) hq hp ht he hl A M w0 a w hR K Q hK
theorem s_len_ind {x : Operand} {q : Int} {t ty : TypeId} {pos : String} {af : Array Edge} {gd : Option (Nat × Bool)} (hd : d < n)
    (hx : st.eval x = .d (.lit (famv vs q))) (hf : st.objs[f]? = some (.fam e k vs (c.map fun r => r.map g))) (hq : idx c q = some row) {e' kk : Nat} (ht : SliceOf P t e' kk) :
    Step1 P n ⟨some d, .call { callee := .builtin .len, args := #[x], argTypes := #[t] }, ty, pos, af, gd⟩ st (st.set d (.i row.length)) := by
  intro A M w0 a w hR K Q hK
  exact s_len_in hd hx hf (fam_at hR hf hq) hq ht A M w0 a w hR K Q hK
theorem s_store_ind {x y : Operand} {t m : Nat} {a a' : α} {q p : Int} {j : Nat} {es : List D} {u : AV} {ty : TypeId} {pos : String} {af : Array Edge} {gd : Option (Nat × Bool)}
    (hx : st.eval x = .ep (famv vs q) k p.toNat j) (hf : st.objs[f]? = some (.fam e k vs (c.map fun r => r.map g))) (hq : idx c q = some row) (hp : idx row p = some a) (hy : st.eval y = u) (hk : okOp y = true) (hu : u.cells = some es) (ht : ∀ w, (sizeOf t).run P w = .ok m w)
    (hm : es.length = m) (hm0 : 0 < m) (hj : j + es.length ≤ (g a).length) (hpa : patch (g a) j es = g a') (hc : c.set q.toNat (row.set p.toNat a') = c') :
    Step1 P n ⟨none, .store t x y, ty, pos, af, gd⟩ st ⟨st.env, st.objs.set f (.fam e k vs (c'.map fun r => r.map g))⟩ := by
  intro A M w0 a w hR K Q hK
  exact s_store_in hx hf (fam_at hR hf hq) hq hp hy hk hu ht hm hm0 hj hpa hc A M w0 a w hR K Q hK
end

/-- A slice that was appended joins the family. -/
theorem ent_joinapp {env : Nat → AV} {objs : List MO} {i e k bytes : Nat} {vs : List Value} {v : Value} {α : Type} {g : α → List D} {c c' : List (List α)} {row : List α} (keepers final : List MO)
    (ho : objs = keepers ++ [.arr v e k (row.map g)]) (hi : keepers[i]? = some (.fam e k vs (c.map fun r => r.map g))) (hb : app bytes c [row] = some c') (hfi : keepers.set i (.fam e k (vs ++ [v]) (c'.map fun r => r.map g)) = final) :
    Ent ⟨env, objs⟩ ⟨env, final⟩ := by
  subst ho; subst hfi
  have hc : c' = c ++ [row] := by
    unfold app at hb
    split at hb
    · exact (Option.some.inj hb).symm
    · cases hb
  subst hc
  have := ent_join (env := env) (v := v) (rows := row.map g) hi
  simpa using this

theorem acalls_trq {P : Program} {f : FuncId} {fn : Func} {c : Code} {args : List AV} {objs : List MO} {Q : AV → List MO → Prop} (hf : P.funcs[f]? = some fn) (hb : fn.body = some c) {rs : List ResultVar} (hr : fn.results = rs.toArray) {n : Nat} (hn : fn.ntmps = n) (ha : args.length ≤ n)
    (h : Tr P n c ⟨entry args, objs⟩ (fun e st => e = .ret ∧ ∃ r0 objs' gone, ResW P st rs r0 ∧ st.objs.Perm (objs' ++ gone) ∧ Q r0 objs')) : ACalls P f args objs Q := by
  subst hn
  intro A w vs hinv hA hvs
  refine calls_of_wp hf hb ?_
  have hlen := hvs.length
  have hR : R A (feet objs) w fn.ntmps ⟨entry args, objs⟩ { tmps := vs.toArray ++ Array.replicate (fn.ntmps - vs.toArray.size) undef, defers := [] } w := by
    refine ⟨?_, rfl, fun k => ?_, hinv, Keeps.refl _ _, fun m hm b o hf => .inl ⟨m, hm, hf⟩, hA⟩
    · simp; omega
    · have := hvs.getD k
      show VR _ _ (args.getD k .any) _
      rw [Array.getD_eq_getD_getElem?]
      by_cases hk : k < vs.length
      · rw [Array.getElem?_append_left (by simpa using hk)]
        simpa [List.getD] using this
      · have : args.getD k .any = .any := by simp [List.getD, List.getElem?_eq_none (show args.length ≤ k by omega)]
        rw [this]; exact .any _
  refine wp_mono (h A (feet objs) w _ _ hR) ?_
  rintro e a' w' ⟨st, ⟨rfl, r0, objs', gone, hres, hp, hq⟩, hR'⟩
  obtain ⟨v, hrun, hv⟩ := results_read' hr hres hR'
  have hR1 : R A (feet objs) w 1 ⟨upd emp 0 r0, st.objs⟩ { tmps := #[v], defers := [] } w' := by
    refine ⟨rfl, rfl, fun k => ?_, hR'.inv, hR'.keeps, hR'.own, hR'.old⟩
    show VR _ _ (upd emp 0 r0 k) _
    by_cases hk : 0 = k
    · subst hk; rw [upd_same]; exact hv
    · rw [upd_ne _ _ hk]; exact .any _
  have hR2 := ent_freeze (env' := upd emp 0 r0) hp (fun k => .same _) A (feet objs) w 1 _ w' hR1
  have hv2 : VR w' (live A objs') (upd emp 0 r0 0) v := hR2.env 0
  rw [upd_same] at hv2
  exact ⟨hR'.defers, v, hrun, v, r0, objs', rfl, hR2.keeps, hR2.inv, hv2, hR2.own, hq⟩

/-- A family is let go, or lent, with its slice of slices. -/
theorem dv_fam {α : Type} {fs : List MO} (i j : Nat) {v0 : Value} {e0 e k : Nat} {vs : List Value} {g : α → List D} {c : List (List α)} (ho : fs[i]? = some (.arr v0 e0 1 (vs.map fun v => [.lit v]))) (hf : fs[j]? = some (.fam e k vs (c.map fun r => r.map g))) {h : List α → List D} (hh : ∀ r, h r = [.sl k (r.map g)]) :
    DV fs (.lit v0) (.sl 1 (c.map h)) := by
  have e1 : c.map h = (c.map fun r => r.map g).map fun rows => [.sl k rows] := by
    rw [List.map_map]
    exact List.map_congr_left fun r _ => hh r
  rw [e1]
  exact .nest v0 e0 e k vs _ (List.mem_of_getElem? ho) (List.mem_of_getElem? hf)
end Go.Am
