/- The program logic 'Am': maps. -/
import Derived.Test.YtaocljlhapoieaaAmRes
import Derived.MapKept
import Derived.ChangeKeysEq
namespace Go.Am

section
variable {P : Program} {n d : Nat} {st : St}

end

theorem MRs.keys {w : World} {X : cB} : ∀ {es : List (Value × AV)} {ms : List MapEntry}, MRs w X es ms → ms.map (·.key) = es.map (·.1)
  | [], [], _ => rfl
  | (_, _) :: _, _ :: _, h => by simp [h.1, MRs.keys h.2.2]
theorem MRs.get {w : World} {X : cB} : ∀ {es : List (Value × AV)} {ms : List MapEntry}, MRs w X es ms → ∀ {j : Nat} {e : Value × AV}, es[j]? = some e → ∃ m, ms[j]? = some m ∧ VR w X e.2 m.val
  | [], [], _, j, e, h => by simp at h
  | (_, _) :: _, m :: _, h, 0, e, he => by simp at he; subst he; exact ⟨m, rfl, h.2.1⟩
  | (_, _) :: _, m :: _, h, j + 1, e, he => by simpa using MRs.get h.2.2 (j := j) (by simpa using he)

section
variable {P : Program} {n d : Nat} {st : St}

end


section
variable {P : Program} {n d : Nat} {st : St}
end


theorem MRs.set {w : World} {X : cB} : ∀ {es : List (Value × AV)} {ms : List MapEntry} {j : Nat} {k : Value} {x : AV} {u : Value}, MRs w X es ms → (es[j]?).map (·.1) = some k → VR w X x u →
    MRs w X (es.set j (k, x)) (ms.modify j fun e => { e with val := u })
  | [], [], _, _, _, _, _, _, _ => by simp; trivial
  | (k0, x0) :: es, m :: ms, 0, k, x, u, h, hk, hv => by
    simp at hk; subst hk
    simp only [List.set_cons_zero, List.modify_zero_cons]
    exact ⟨h.1, hv, h.2.2⟩
  | (k0, x0) :: es, m :: ms, j + 1, k, x, u, h, hk, hv => by
    simp only [List.set_cons_succ, List.modify_succ_cons]
    exact ⟨h.1, h.2.1, MRs.set h.2.2 (by simpa using hk) hv⟩

section
variable {P : Program} {n d : Nat} {st : St}

end


section
variable {P : Program} {n d : Nat} {st : St}
end

end Go.Am
