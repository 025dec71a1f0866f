/- The program logic 'Am': ranges over maps; more of maps. -/
import Derived.Test.YtaocljlhapoieaaAmFam
import Derived.Maps.RangeRun
namespace Go.Am

theorem MRs.len {w : World} {X : bF} {es : List (Value × AV)} {ms : List MapEntry} (h : MRs w X es ms) : ms.length = es.length := by
  have := congrArg List.length h.keys
  simpa using this

section
variable {P : Program} {n d : Nat} {st : St}

/-- The number of entries. -/
theorem aIb {t kt et : TypeId} {α : Type} {l : List α} {f : α → Value × AV} {x : Operand} {r m : Nat} {bs : List Nat} {ck : Nat} {ty : TypeId} {pos : String} {af : Array Edge} {gd : Option (Nat × Bool)} (hd : d < n)
    (ht : P.underlying t = some (.map kt et)) (hx : st.eval x = .d (.lit (.map (some r)))) (ho : st.objs[m]? = some (.map r (l.map f) bs ck)) :
    bC P n ⟨some d, .call { callee := .builtin .len, args := #[x], argTypes := #[t] }, ty, pos, af, gd⟩ st (st.set d (.i l.length)) :=
  cI rfl hd fun A M w0 ac w hR => by
    obtain ⟨ms, hh, hms, _⟩ := hR.inv.holds _ (List.mem_of_getElem? ho)
    have : ms.size = l.length := by have := hms.len; simpa using this
    refine ⟨.int .i64 l.length, ?_, .d (.lit _ rfl)⟩
    simp [execOp, resolve, hR.lit hx, invoke, builtin, Builtin.len_, run_underlying ht, mI hh, goInt, this]

theorem MRs.erase {w : World} {X : bF} : ∀ {es : List (Value × AV)} {ms : List MapEntry} (j : Nat), MRs w X es ms → MRs w X (es.eraseIdx j) (ms.eraseIdx j)
  | [], [], _, h => by simpa using h
  | (_, _) :: _, _ :: _, 0, h => h.2.2
  | (_, _) :: _, _ :: _, j + 1, h => ⟨h.1, h.2.1, MRs.erase j h.2.2⟩

end
end Go.Am
