/- A box that holds a frozen pointer: the pointer's value has a name, and what it points to is held beside. -/
import Derived.Test.YtfdappeickbpeaaGreatAmSort
namespace Go.Am
def yS {α : Type} (enc : α → List D) (o : Option α) (v : Value) : MO := .ext (fun _ _ => False) (fun w X => VR w X (kX enc o) v)
section
variable {P : Program} {n d : Nat} {st : St} {Q : Exit → St → Prop}
theorem aVy {α : Type} {enc : α → List D} {o : Option α} {ops : Array Oper} {l : List Oper} {env : Nat → AV} {objs : List MO} (k : Nat) (hk : env k = kX enc o)
  (h : ∀ v : Value, TrL P n ops l ⟨upd env k (.d (.lit v)), objs ++ [yS enc o v]⟩ Q) : TrL P n ops l ⟨env, objs⟩ Q := fun A M w0 a w hR => by
 have hv := hR.env k
 rw [show (⟨env, objs⟩ : St).env k = kX enc o from hk] at hv
 have h1 := hR.add (m := yS enc o (a.tmps.getD k undef)) (Keeps.refl _ _) (fun b o hf => hf.elim) (fun hm => ⟨fun _ _ h => h.elim, fun w' X' hm' _ => (hv.mono hm).mono hm'⟩)
 refine h (a.tmps.getD k undef) A M w0 a w ⟨h1.size, h1.defers, fun j => ?_, h1.inv, h1.keeps, h1.own, h1.old⟩
 by_cases hj : k = j
 ·subst hj
  rw [show (⟨upd env k (.d (.lit (a.tmps.getD k undef))), objs ++ [yS enc o (a.tmps.getD k undef)]⟩ : St).env k = .d (.lit (a.tmps.getD k undef)) from gG _ _ _]
  refine .d (.lit _ ?_)
  generalize a.tmps.getD k undef = v at hv
  cases o with
  | none => cases hv with | d h => exact h.oneCell
  | some x => cases hv with | cp => rfl
 ·rw [show (⟨upd env k (.d (.lit (a.tmps.getD k undef))), objs ++ [yS enc o (a.tmps.getD k undef)]⟩ : St).env j = env j from lO _ _ hj]
  exact h1.env j
theorem aEs {α : Type} {enc : α → List D} {oo : Option α} {x : Operand} {t : TypeId} {b o j i i2 : Nat} {ds : List D} {v : Value} {ty : TypeId} {pos : String} {af : Array Edge} {gd : Option (Nat × Bool)} (hd : d < n)
  (hx : st.eval x = .bp b o j) (ho : st.objs[i]? = some (.box b o ds)) (hj : ds[j]? = some (.lit v)) (h2 : st.objs[i2]? = some (yS enc oo v)) (ht : lP P t) : bO P n ⟨some d, .load t x, ty, pos, af, gd⟩ st (st.set d (kX enc oo)) :=
 dB rfl hd fun A M w0 a w hR => by
  have hk : eO x = true := by cases x with | const u => cases hx | _ => rfl
  have h := hR.eval' hk
  rw [hx] at h
  generalize hu : a.eval x = u at h
  obtain ⟨vs, hds, hc, _⟩ := hR.inv.holds _ (List.mem_of_getElem? ho)
  obtain ⟨_, hf⟩ := hR.inv.holds _ (List.mem_of_getElem? h2)
  obtain ⟨u', hv, hdv⟩ := hds.get hj
  have hu' : u' = v := by cases hdv; rfl
  subst hu'
  cases h with
  | bp => exact ⟨u', by simp [execOp, hu, vW ht (hc j u' hv)], hf _ _ (Mono.refl _ _) (Keeps.refl _ _)⟩
end
end Go.Am
