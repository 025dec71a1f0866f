/- The program logic 'Am': looks into frozen maps; functions whose outcome depends on an order. -/
import Derived.Test.YtaocljlhapoieaaAmIter
namespace Go.Am

section
variable {P : Program} {n d : Nat} {st : St}

/-- A frozen pointer that may be nil. -/
def qK {α : Type} (enc : α → List D) : Option α → AV
  | none => .d (.lit (.pointer none))
  | some x => .cp (enc x)
end
section
variable {P : Program} {n d : Nat} {st : St}
/-- Whether frozen data is nil is not known; if it is, it is empty. -/
theorem aBc {k : Nat} {rows : List (List D)} {x : Operand} {t u el ty : TypeId} {pos : String} {af : Array Edge} {gd : Option (Nat × Bool)} (hd : d < n)
    (hx : st.eval x = .d (.sl k rows)) (hk : eD x = true) (ht : P.underlying t = some (.slice el)) :
    Step P n ⟨some d, .binOp .eql t x (.const (.slice none 0 0)) u, ty, pos, af, gd⟩ st (fun s => ∃ b : Bool, (b = true → rows = []) ∧ s = st.set d (.b b)) := by
  intro A M w0 a w hR K Q hK
  have h := hR.eval' hk
  rw [hx] at h
  generalize hu : a.eval x = v at h
  have key : ∀ (ad : Option Addr) (m cap : Nat), v = .slice ad m cap → (execOp a.eval ⟨some d, .binOp .eql t x (.const (.slice none 0 0)) u, ty, pos, af, gd⟩).run P w = .ok (.value (.bool ad.isNone)) w := by
    rintro ad m cap rfl
    have hb := Lib.run_eql_slice_nil (P := P) w t el ad m cap 0 0 ht
    have hg : eqGuard .eql t x (.const (.slice none 0 0)) (.slice ad m cap) (.slice none 0 0) = pure () := rfl
    have hc : a.eval (.const (.slice none 0 0)) = .slice none 0 0 := rfl
    simp only [execOp, hu, hc, Sem.run_bind, Sem.run_pure, hg, hb, Result.andThen_ok]
  have fin : ∀ (b : Bool), (b = true → rows = []) → (execOp a.eval ⟨some d, .binOp .eql t x (.const (.slice none 0 0)) u, ty, pos, af, gd⟩).run P w = .ok (.value (.bool b)) w → Oper.wp P ⟨some d, .binOp .eql t x (.const (.slice none 0 0)) u, ty, pos, af, gd⟩ a w K Q := by
    intro b hb hrun
    unfold Oper.wp
    rw [hrun, Oper.upon_value]
    exact hK _ _ _ ⟨b, hb, rfl⟩ (hR.put (o := ⟨some d, .binOp .eql t x (.const (.slice none 0 0)) u, ty, pos, af, gd⟩) rfl hd (.d (.lit _ rfl)))
  cases h with
  | d h =>
    generalize hd' : D.sl k rows = dd at h
    cases h with
    | nil => exact fin true (fun _ => by cases hd'; rfl) (key none 0 0 rfl)
    | e0 _ ad => exact fin false (fun h => by cases h) (key (some ad) 0 0 rfl)
    | sl _ _ b o cap f' => exact fin false (fun h => by cases h) (key _ _ _ rfl)
    | _ => cases hd'
/-- A call that gives a slice to own. -/
theorem pN {c : Callee} {l : List Operand} {f : FuncId} {args : List AV} {e k : Nat} {rows : List (List D)} {ts : Array TypeId} {ty : TypeId} {pos : String} {af : Array Edge} {gd : Option (Nat × Bool)} (hd : d < n)
    {a0 : List AV} (hc : pF P st c l f a0) (ha : a0 = args) (hok : pK l = true) (hf : eS P f args [] (fun r' o' => ∃ w, r' = .d (.lit w) ∧ o' = [.arr w e k rows])) :
    Step P n ⟨some d, .call { callee := c, args := l.toArray, argTypes := ts }, ty, pos, af, gd⟩ st (fun s => ∃ w, s = (st.setadd d (.d (.lit w)) (.arr w e k rows))) := by
  intro A M w0 a w hR K Q hK
  refine aFm hd hc ha hok hf A M w0 a w hR K Q ?_
  rintro s a' w' ⟨_, _, ⟨v, rfl, rfl⟩, hs⟩ hR'
  exact hK s a' w' ⟨v, hs⟩ hR'
end
theorem aAt {α β : Type} {f : α → β} {l : List α} (h : l.map f = []) : l = [] := List.map_eq_nil_iff.1 h
end Go.Am
