/- Ranges over frozen maps; pointers as data; own slices that a call gives while it is lent things. -/
import Derived.Test.YtiohgpipanopaaaGreatAmPtr
import Derived.Test.YtiohgpipanopaaaGreatAmLent
import Derived.Test.YtiohgpipanopaaaGreatAmPrim
namespace Go.Am
theorem MRs.of {w : World} {X : bZ} : ∀ {es : List (Value × AV)} {ms : List MapEntry}, ms.map (·.key) = es.map (·.1) → (∀ (i : Nat) (m : MapEntry) (e : Value × AV), ms[i]? = some m → es[i]? = some e → VR w X e.2 m.val) → MRs w X es ms
 | [], [], _, _ => trivial
 | (k, x) :: es, m :: ms, hk, h => by
  simp only [List.map_cons, List.cons.injEq] at hk
  exact ⟨hk.1, h 0 m (k, x) rfl rfl, MRs.of hk.2 fun i m' e h1 h2 => h (i + 1) m' e (by simpa using h1) (by simpa using h2)⟩
 | [], _ :: _, hk, _ => by simp at hk
 | _ :: _, [], hk, _ => by simp at hk
section
variable {P : Program} {n d : Nat} {st : St}
end
section
variable {P : Program} {n d : Nat} {st : St}
def aYc (i j : Nat) : Option Nat := if j < i then some j else if j = i then none else some (j - 1)
theorem er {α : Type} {l : List α} {i j : Nat} (j' : Nat) {x : α} (hj : aYc i j' = some j) (h : l[j']? = some x) : (l.eraseIdx i)[j]? = some x := by
 unfold aYc at hj
 split at hj
 ·cases hj
  rw [List.getElem?_eraseIdx, if_pos (by assumption)]
  exact h
 ·split at hj
  ·cases hj
  ·cases hj
   rw [List.getElem?_eraseIdx, if_neg (by omega), show j' - 1 + 1 = j' by omega]
   exact h
theorem aUp {env : Nat → AV} {objs objs' : List MO} (h : objs.Perm objs') : Ent ⟨env, objs⟩ ⟨env, objs'⟩ :=
 tD (gone := []) (by simpa using h) fun _ => .same _
theorem aPi {c : Callee} {l : List Operand} {f : FuncId} {args args' : List AV} {e k : Nat} {rows : List (List D)} {ts : Array TypeId} {ty : TypeId} {pos : String} {af : Array Edge} {gd : Option (Nat × Bool)} (hd : d < n)
  {a0 : List AV} (hc : rH P st c l f a0) (ha : a0 = args) (hok : oZ l = true) (hb : BVs st.objs args args') (hf : dR P f args' [] (fun r' o' => ∃ w, r' = .d (.lit w) ∧ o' = [.arr w e k rows])) (hp : fD rows.flatten = true) :
  Step P n ⟨some d, .call { callee := c, args := l.toArray, argTypes := ts }, ty, pos, af, gd⟩ st (fun s => ∃ w, s = (st.setadd d (.d (.lit w)) (.arr w e k rows))) := by
 intro A M w0 a w hR K Q hK
 refine aOb (passed := []) hd rfl hc ha hok hb hf pmn (by rintro _ _ ⟨w, rfl, rfl⟩; exact ⟨rfl, pmc (aLh hp) pmn⟩) A M w0 a w hR K Q ?_
 rintro s a' w' ⟨_, _, ⟨v, rfl, rfl⟩, rfl⟩ hR'
 refine hK _ a' w' ⟨v, rfl⟩ (aUp ?_ A M w0 n a' w' hR')
 exact List.perm_append_comm
end
end Go.Am
