/- The program logic 'Am': ranges over functions. -/
import Derived.Test.YtoflekecpkjghaaGreatAmNd
import Derived.RangeFuncSeq
namespace Go.Am
def yv (l : Nat) : Value := .func (.yield l) #[] #[]
section
variable {P : Program} {n d : Nat} {st : St}
end
section
variable {P : Program} {n : Nat} {st : St} {Q : Exit → St → Prop} {N : St → Prop}
end
end Go.Am
namespace Go.Am
section
variable {P : Program} {n : Nat} {st : St} {Q : Exit → St → Prop} {N : St → Prop}
end
end Go.Am
namespace Go.Am
theorem tJ {P : Program} {f : FuncId} {fn : Func} {c : Code} {args : List AV} {objs : List MO} {Q : AV → List MO → Prop} (hf : P.funcs[f]? = some fn) (hb : fn.body = some c) {rs : List ResultVar} (hr : fn.results = rs.toArray) {n : Nat} (hn : fn.ntmps = n) (ha : args.length ≤ n)
  (h : Tr P n c ⟨entry args, objs⟩ (wC (fun st => ∃ r0 objs' gone r, zJ P st rs r0 ∧ st.objs.Perm (objs' ++ gone) ∧ BV gone r0 r ∧ Q r objs') (fun e st => e = .ret ∧ ∃ r0 objs' gone r, zJ P st rs r0 ∧ st.objs.Perm (objs' ++ gone) ∧ BV gone r0 r ∧ Q r objs'))) : fP P f args objs Q := by
 subst hn
 have key : ∀ e st, wC (fun st => ∃ r0 objs' gone r, zJ P st rs r0 ∧ st.objs.Perm (objs' ++ gone) ∧ BV gone r0 r ∧ Q r objs') (fun e st => e = .ret ∧ ∃ r0 objs' gone r, zJ P st rs r0 ∧ st.objs.Perm (objs' ++ gone) ∧ BV gone r0 r ∧ Q r objs') e st → (e = .ret ∨ e = .normal) ∧ ∃ r0 objs' gone r, zJ P st rs r0 ∧ st.objs.Perm (objs' ++ gone) ∧ BV gone r0 r ∧ Q r objs' := by
  intro e st h
  cases e <;> first | exact ⟨.inr rfl, h⟩ | exact ⟨.inl h.1, h.2⟩
 intro A w vs hinv hA hvs
 refine aCo hf hb ha h hinv hA hvs (fun e st hq => (key e st hq).1) ?_
 intro e st a' w' hq hR'
 obtain ⟨_, r0, objs', gone, r, hres, hp, hbv, hq⟩ := key e st hq
 obtain ⟨v, hrun, hv⟩ := aFt hr hres hR'
 have hR1 : R A (rR objs) ⟨w, [], none⟩ 1 ⟨upd emp 0 r0, st.objs⟩ { tmps := #[v], defers := [] } w' := by
  refine ⟨rfl, Marks.nil _ ⟨w, [], none⟩ _, fun k => ?_, hR'.inv, hR'.keeps, hR'.own, hR'.old⟩
  show VR _ _ (upd emp 0 r0 k) _
  by_cases hk : 0 = k
  ·subst hk; rw [lM]; exact hv
  ·rw [tI _ _ hk]; exact .any _
 have hR2 := zZ (env' := upd emp 0 r) hp (fun k => by
  by_cases hk : 0 = k
  ·subst hk; rw [lM, lM]; exact hbv
  ·rw [tI _ _ hk, tI _ _ hk]; exact .any _) A (rR objs) ⟨w, [], none⟩ 1 _ w' hR1
 have hv2 : VR w' (cS A objs') (upd emp 0 r 0) v := hR2.env 0
 rw [lM] at hv2
 exact ⟨v, hrun, v, r, objs', rfl, hR2.keeps, hR2.inv, hv2, hR2.own, hq⟩
end Go.Am
namespace Go.Am
end Go.Am
