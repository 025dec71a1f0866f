/- A box that holds a frozen pointer: the pointer's value has a name, and what it points to is held beside. -/
import Derived.Test.YtiohgpipanopaaaGreatAmSort
namespace Go.Am
def sA {α : Type} (enc : α → List D) (o : Option α) (v : Value) : MO := .ext (fun _ _ => False) (fun w X => VR w X (cM enc o) v)
section
variable {P : Program} {n d : Nat} {st : St} {Q : Exit → St → Prop}
theorem aWb {α : Type} {enc : α → List D} {o : Option α} {ops : Array Oper} {l : List Oper} {env : Nat → AV} {objs : List MO} (k : Nat) (hk : env k = cM enc o)
  (h : ∀ v : Value, TrL P n ops l ⟨upd env k (.d (.lit v)), objs ++ [sA enc o v]⟩ Q) : TrL P n ops l ⟨env, objs⟩ Q := fun A M w0 a w hR => by
 have hv := hR.env k
 rw [show (⟨env, objs⟩ : St).env k = cM enc o from hk] at hv
 have h1 := hR.add (m := sA enc o (a.tmps.getD k undef)) (Keeps.refl _ _) (fun b o hf => hf.elim) (fun hm => ⟨fun _ _ h => h.elim, fun w' X' hm' _ => (hv.mono hm).mono hm'⟩)
 refine h (a.tmps.getD k undef) A M w0 a w ⟨h1.size, h1.defers, fun j => ?_, h1.inv, h1.keeps, h1.own, h1.old⟩
 by_cases hj : k = j
 ·subst hj
  rw [show (⟨upd env k (.d (.lit (a.tmps.getD k undef))), objs ++ [sA enc o (a.tmps.getD k undef)]⟩ : St).env k = .d (.lit (a.tmps.getD k undef)) from gW _ _ _]
  refine .d (.lit _ ?_)
  generalize a.tmps.getD k undef = v at hv
  cases o with
  | none => cases hv with | d h => exact h.oneCell
  | some x => cases hv with | cp => rfl
 ·rw [show (⟨upd env k (.d (.lit (a.tmps.getD k undef))), objs ++ [sA enc o (a.tmps.getD k undef)]⟩ : St).env j = env j from nC _ _ hj]
  exact h1.env j
theorem aLl {α : Type} {enc : α → List D} {oo : Option α} {x : Operand} {t : TypeId} {b o j i i2 : Nat} {ds : List D} {v : Value} {ty : TypeId} {pos : String} {af : Array Edge} {gd : Option (Nat × Bool)} (hd : d < n)
  (hx : st.eval x = .bp b o j) (ho : st.objs[i]? = some (.box b o ds)) (hj : ds[j]? = some (.lit v)) (h2 : st.objs[i2]? = some (sA enc oo v)) (ht : iG P t) : bR P n ⟨some d, .load t x, ty, pos, af, gd⟩ st (st.set d (cM enc oo)) :=
 dE rfl hd fun A M w0 a w hR => by
  have hk : eC x = true := by cases x with | const u => cases hx | _ => rfl
  have h := hR.eval' hk
  rw [hx] at h
  generalize hu : a.eval x = u at h
  obtain ⟨vs, hds, hc, _⟩ := hR.inv.holds _ (List.mem_of_getElem? ho)
  obtain ⟨_, hf⟩ := hR.inv.holds _ (List.mem_of_getElem? h2)
  obtain ⟨u', hv, hdv⟩ := hds.get hj
  have hu' : u' = v := by cases hdv; rfl
  subst hu'
  cases h with
  | bp => exact ⟨u', by simp [execOp, hu, sQ ht (hc j u' hv)], hf _ _ (Mono.refl _ _) (Keeps.refl _ _)⟩
theorem aTp {α : Type} {enc : α → List D} {y : α} {x : Operand} {t : TypeId} {b o j i i2 : Nat} {ds : List D} {v : Value} {ty : TypeId} {pos : String} {af : Array Edge} {gd : Option (Nat × Bool)} (hd : d < n)
  (hx : st.eval x = .bp b o j) (ho : st.objs[i]? = some (.box b o ds)) (hj : ds[j]? = some (.lit v)) (h2 : st.objs[i2]? = some (sA enc (some y) v)) (ht : iG P t) : bR P n ⟨some d, .load t x, ty, pos, af, gd⟩ st (st.set d (.cp (enc y))) :=
 aLl hd hx ho hj h2 ht
theorem aSo {α : Type} {enc : α → List D} {o : Option α} {y : α} {v : Value} {env : Nat → AV} {objs : List MO} {i : Nat} (ho : objs[i]? = some (sA enc o v)) (h : o = some y) : Ent ⟨env, objs⟩ ⟨env, objs.set i (sA enc (some y) v)⟩ := by
 subst h
 have hi : i < objs.length := (List.getElem?_eq_some_iff.1 ho).1
 have : objs.set i (sA enc (some y) v) = objs := by
  rw [← (List.getElem?_eq_some_iff.1 ho).2]
  exact List.set_getElem_self hi
 rw [this]
 exact Ent.refl _
theorem aUq {α : Type} {enc : α → List D} {o : Option α} {y : α} {v : Value} {env : Nat → AV} {objs : List MO} {i : Nat} (ho : objs[i]? = some (sA enc (some y) v)) (h : o = some y) : Ent ⟨env, objs⟩ ⟨env, objs.set i (sA enc o v)⟩ := by
 subst h
 exact aSo ho rfl
end
end Go.Am
